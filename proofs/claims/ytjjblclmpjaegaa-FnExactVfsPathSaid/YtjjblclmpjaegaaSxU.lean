/- The element types of this seat's rows. No condition. -/
import Derived.Test.YtjjblclmpjaegaaSxS
import Derived.Test.YtjjblclmpjaegaaProg
set_option linter.unusedVariables false
set_option linter.unusedSimpArgs false
namespace Go.Sx
open Go.RowKit
structure S94 where
  f0 : ByteArray
  f1 : Int
  deriving DecidableEq, Inhabited
structure S86 where
  f0 : Int
  f1 : Int
  f2 : Int
  f3 : Int
  f4 : Int
  f5 : Int
  f6 : Bool
  f7 : ByteArray
  f8 : (List S94)
  deriving DecidableEq, Inhabited
structure S63 where
  f0 : (List S86)
  deriving DecidableEq, Inhabited
structure S24 where
  f0 : (List S63)
  f1 : Int
  deriving DecidableEq, Inhabited
structure S34 where
  f0 : Int
  f1 : Int
  deriving DecidableEq, Inhabited
abbrev TT (t : Nat) : Type := match t with
  | 3 => Int
  | 4 => Bool
  | 9 => ByteArray
  | 24 => S24
  | 29 => S24
  | 34 => S34
  | 37 => S34
  | 44 => S63
  | 49 => S86
  | 63 => S63
  | 67 => S94
  | 86 => S86
  | 94 => S94
  | _ => Unit
def defT (t : Nat) : TT t := by unfold TT; split <;> exact default
structure Ent (A : Type) where
  sz : Nat
  dflt : A
  enc : A → List (SV TT)
  dec : List (SV TT) → Option A
def ent (t : Nat) : Ent (TT t) := match t with
  | 3 => ⟨1, (0 : Int), fun x => [.v (.int .i64 x)], fun l => match l with
    | [x0] => (deI .i64 x0).bind fun a0 => some a0
    | _ => none⟩
  | 4 => ⟨1, (false : Bool), fun x => [.v (.bool x)], fun l => match l with
    | [x0] => (deB x0).bind fun a0 => some a0
    | _ => none⟩
  | 9 => ⟨1, (ByteArray.empty : ByteArray), fun x => [.v (.string x)], fun l => match l with
    | [x0] => (deS x0).bind fun a0 => some a0
    | _ => none⟩
  | 24 => ⟨2, (⟨[], 0⟩ : S24), fun x => [.row 63 x.f0, .v (.int .i64 x.f1)], fun l => match l with
    | [x0, x1] => (rowOf 63 x0).bind fun a0 => (deI .i64 x1).bind fun a1 => some ⟨a0, a1⟩
    | _ => none⟩
  | 29 => ⟨2, (⟨[], 0⟩ : S24), fun x => [.row 44 x.f0, .v (.int .i64 x.f1)], fun l => match l with
    | [x0, x1] => (rowOf 44 x0).bind fun a0 => (deI .i64 x1).bind fun a1 => some ⟨a0, a1⟩
    | _ => none⟩
  | 34 => ⟨2, (⟨0, 0⟩ : S34), fun x => [.v (.int .i64 x.f0), .v (.int .i64 x.f1)], fun l => match l with
    | [x0, x1] => (deI .i64 x0).bind fun a0 => (deI .i64 x1).bind fun a1 => some ⟨a0, a1⟩
    | _ => none⟩
  | 37 => ⟨2, (⟨0, 0⟩ : S34), fun x => [.v (.int .i64 x.f0), .v (.int .i64 x.f1)], fun l => match l with
    | [x0, x1] => (deI .i64 x0).bind fun a0 => (deI .i64 x1).bind fun a1 => some ⟨a0, a1⟩
    | _ => none⟩
  | 44 => ⟨1, (⟨[]⟩ : S63), fun x => [.row 49 x.f0], fun l => match l with
    | [x0] => (rowOf 49 x0).bind fun a0 => some ⟨a0⟩
    | _ => none⟩
  | 49 => ⟨9, (⟨0, 0, 0, 0, 0, 0, false, ByteArray.empty, []⟩ : S86), fun x => [.v (.int .i64 x.f0), .v (.int .i64 x.f1), .v (.int .i64 x.f2), .v (.int .i64 x.f3), .v (.int .i64 x.f4), .v (.int .i64 x.f5), .v (.bool x.f6), .v (.string x.f7), .row 67 x.f8], fun l => match l with
    | [x0, x1, x2, x3, x4, x5, x6, x7, x8] => (deI .i64 x0).bind fun a0 => (deI .i64 x1).bind fun a1 => (deI .i64 x2).bind fun a2 => (deI .i64 x3).bind fun a3 => (deI .i64 x4).bind fun a4 => (deI .i64 x5).bind fun a5 => (deB x6).bind fun a6 => (deS x7).bind fun a7 => (rowOf 67 x8).bind fun a8 => some ⟨a0, a1, a2, a3, a4, a5, a6, a7, a8⟩
    | _ => none⟩
  | 63 => ⟨1, (⟨[]⟩ : S63), fun x => [.row 86 x.f0], fun l => match l with
    | [x0] => (rowOf 86 x0).bind fun a0 => some ⟨a0⟩
    | _ => none⟩
  | 67 => ⟨2, (⟨ByteArray.empty, 0⟩ : S94), fun x => [.v (.string x.f0), .v (.int .i64 x.f1)], fun l => match l with
    | [x0, x1] => (deS x0).bind fun a0 => (deI .i64 x1).bind fun a1 => some ⟨a0, a1⟩
    | _ => none⟩
  | 86 => ⟨9, (⟨0, 0, 0, 0, 0, 0, false, ByteArray.empty, []⟩ : S86), fun x => [.v (.int .i64 x.f0), .v (.int .i64 x.f1), .v (.int .i64 x.f2), .v (.int .i64 x.f3), .v (.int .i64 x.f4), .v (.int .i64 x.f5), .v (.bool x.f6), .v (.string x.f7), .row 94 x.f8], fun l => match l with
    | [x0, x1, x2, x3, x4, x5, x6, x7, x8] => (deI .i64 x0).bind fun a0 => (deI .i64 x1).bind fun a1 => (deI .i64 x2).bind fun a2 => (deI .i64 x3).bind fun a3 => (deI .i64 x4).bind fun a4 => (deI .i64 x5).bind fun a5 => (deB x6).bind fun a6 => (deS x7).bind fun a7 => (rowOf 94 x8).bind fun a8 => some ⟨a0, a1, a2, a3, a4, a5, a6, a7, a8⟩
    | _ => none⟩
  | 94 => ⟨2, (⟨ByteArray.empty, 0⟩ : S94), fun x => [.v (.string x.f0), .v (.int .i64 x.f1)], fun l => match l with
    | [x0, x1] => (deS x0).bind fun a0 => (deI .i64 x1).bind fun a1 => some ⟨a0, a1⟩
    | _ => none⟩
  | t => ⟨0, defT t, fun _ => [], fun _ => none⟩
def rd3 (xs : List Int) (i : Int) : Int := xs.getD i.toNat 0
theorem rd3_at {xs : List Int} {i : Nat} (h : i < xs.length) : rd3 xs (i : Int) = xs[i] := by simp [rd3, h]
def rd4 (xs : List Bool) (i : Int) : Bool := xs.getD i.toNat false
theorem rd4_at {xs : List Bool} {i : Nat} (h : i < xs.length) : rd4 xs (i : Int) = xs[i] := by simp [rd4, h]
def rd9 (xs : List ByteArray) (i : Int) : ByteArray := xs.getD i.toNat ByteArray.empty
theorem rd9_at {xs : List ByteArray} {i : Nat} (h : i < xs.length) : rd9 xs (i : Int) = xs[i] := by simp [rd9, h]
def rd24 (xs : List S24) (i : Int) : S24 := xs.getD i.toNat ⟨[], 0⟩
theorem rd24_at {xs : List S24} {i : Nat} (h : i < xs.length) : rd24 xs (i : Int) = xs[i] := by simp [rd24, h]
def rd29 (xs : List S24) (i : Int) : S24 := xs.getD i.toNat ⟨[], 0⟩
theorem rd29_at {xs : List S24} {i : Nat} (h : i < xs.length) : rd29 xs (i : Int) = xs[i] := by simp [rd29, h]
def rd34 (xs : List S34) (i : Int) : S34 := xs.getD i.toNat ⟨0, 0⟩
theorem rd34_at {xs : List S34} {i : Nat} (h : i < xs.length) : rd34 xs (i : Int) = xs[i] := by simp [rd34, h]
def rd37 (xs : List S34) (i : Int) : S34 := xs.getD i.toNat ⟨0, 0⟩
theorem rd37_at {xs : List S34} {i : Nat} (h : i < xs.length) : rd37 xs (i : Int) = xs[i] := by simp [rd37, h]
def rd44 (xs : List S63) (i : Int) : S63 := xs.getD i.toNat ⟨[]⟩
theorem rd44_at {xs : List S63} {i : Nat} (h : i < xs.length) : rd44 xs (i : Int) = xs[i] := by simp [rd44, h]
def rd49 (xs : List S86) (i : Int) : S86 := xs.getD i.toNat ⟨0, 0, 0, 0, 0, 0, false, ByteArray.empty, []⟩
theorem rd49_at {xs : List S86} {i : Nat} (h : i < xs.length) : rd49 xs (i : Int) = xs[i] := by simp [rd49, h]
def rd63 (xs : List S63) (i : Int) : S63 := xs.getD i.toNat ⟨[]⟩
theorem rd63_at {xs : List S63} {i : Nat} (h : i < xs.length) : rd63 xs (i : Int) = xs[i] := by simp [rd63, h]
def rd67 (xs : List S94) (i : Int) : S94 := xs.getD i.toNat ⟨ByteArray.empty, 0⟩
theorem rd67_at {xs : List S94} {i : Nat} (h : i < xs.length) : rd67 xs (i : Int) = xs[i] := by simp [rd67, h]
def rd86 (xs : List S86) (i : Int) : S86 := xs.getD i.toNat ⟨0, 0, 0, 0, 0, 0, false, ByteArray.empty, []⟩
theorem rd86_at {xs : List S86} {i : Nat} (h : i < xs.length) : rd86 xs (i : Int) = xs[i] := by simp [rd86, h]
def rd94 (xs : List S94) (i : Int) : S94 := xs.getD i.toNat ⟨ByteArray.empty, 0⟩
theorem rd94_at {xs : List S94} {i : Nat} (h : i < xs.length) : rd94 xs (i : Int) = xs[i] := by simp [rd94, h]
def UU : Univ TT := ⟨fun t => (ent t).sz, fun t => (ent t).dflt, fun t x => (ent t).enc x, fun t l => (ent t).dec l⟩
theorem bind_eq {A B : Type} {o : Option A} {f : A → Option B} {b : B} (h : o.bind f = some b) : ∃ a, o = some a ∧ f a = some b := by
  cases o with
  | none => cases h
  | some a => exact ⟨a, rfl, h⟩
theorem vr_eq {x y : SV TT} (h : x = y) {ρ : Nat → Option Value} {M : Mem} (v : Value) (hv : VR UU ρ M x v) : VR UU ρ M y v := h ▸ hv
theorem dk3 (cs : List (SV TT)) (e : TT 3) (h : UU.dec 3 cs = some e) (ρ : Nat → Option Value) (M : Mem) (vs : List Value) (hv : CR UU ρ M cs vs) : CR UU ρ M (UU.enc 3 e) vs := by
  match cs, h, hv with
  | [x0], h, hv =>
    obtain ⟨a0, h0, h⟩ := bind_eq h
    cases h
    exact (CR.c (vr_eq (deI_eq h0)) (fun _ h => h)) vs hv
theorem dk4 (cs : List (SV TT)) (e : TT 4) (h : UU.dec 4 cs = some e) (ρ : Nat → Option Value) (M : Mem) (vs : List Value) (hv : CR UU ρ M cs vs) : CR UU ρ M (UU.enc 4 e) vs := by
  match cs, h, hv with
  | [x0], h, hv =>
    obtain ⟨a0, h0, h⟩ := bind_eq h
    cases h
    exact (CR.c (vr_eq (deB_eq h0)) (fun _ h => h)) vs hv
theorem dk9 (cs : List (SV TT)) (e : TT 9) (h : UU.dec 9 cs = some e) (ρ : Nat → Option Value) (M : Mem) (vs : List Value) (hv : CR UU ρ M cs vs) : CR UU ρ M (UU.enc 9 e) vs := by
  match cs, h, hv with
  | [x0], h, hv =>
    obtain ⟨a0, h0, h⟩ := bind_eq h
    cases h
    exact (CR.c (vr_eq (deS_eq h0)) (fun _ h => h)) vs hv
theorem dk24 (cs : List (SV TT)) (e : TT 24) (h : UU.dec 24 cs = some e) (ρ : Nat → Option Value) (M : Mem) (vs : List Value) (hv : CR UU ρ M cs vs) : CR UU ρ M (UU.enc 24 e) vs := by
  match cs, h, hv with
  | [x0, x1], h, hv =>
    obtain ⟨a0, h0, h⟩ := bind_eq h
    obtain ⟨a1, h1, h⟩ := bind_eq h
    cases h
    exact (CR.c (rowOf_vr h0) (CR.c (vr_eq (deI_eq h1)) (fun _ h => h))) vs hv
theorem dk29 (cs : List (SV TT)) (e : TT 29) (h : UU.dec 29 cs = some e) (ρ : Nat → Option Value) (M : Mem) (vs : List Value) (hv : CR UU ρ M cs vs) : CR UU ρ M (UU.enc 29 e) vs := by
  match cs, h, hv with
  | [x0, x1], h, hv =>
    obtain ⟨a0, h0, h⟩ := bind_eq h
    obtain ⟨a1, h1, h⟩ := bind_eq h
    cases h
    exact (CR.c (rowOf_vr h0) (CR.c (vr_eq (deI_eq h1)) (fun _ h => h))) vs hv
theorem dk34 (cs : List (SV TT)) (e : TT 34) (h : UU.dec 34 cs = some e) (ρ : Nat → Option Value) (M : Mem) (vs : List Value) (hv : CR UU ρ M cs vs) : CR UU ρ M (UU.enc 34 e) vs := by
  match cs, h, hv with
  | [x0, x1], h, hv =>
    obtain ⟨a0, h0, h⟩ := bind_eq h
    obtain ⟨a1, h1, h⟩ := bind_eq h
    cases h
    exact (CR.c (vr_eq (deI_eq h0)) (CR.c (vr_eq (deI_eq h1)) (fun _ h => h))) vs hv
theorem dk37 (cs : List (SV TT)) (e : TT 37) (h : UU.dec 37 cs = some e) (ρ : Nat → Option Value) (M : Mem) (vs : List Value) (hv : CR UU ρ M cs vs) : CR UU ρ M (UU.enc 37 e) vs := by
  match cs, h, hv with
  | [x0, x1], h, hv =>
    obtain ⟨a0, h0, h⟩ := bind_eq h
    obtain ⟨a1, h1, h⟩ := bind_eq h
    cases h
    exact (CR.c (vr_eq (deI_eq h0)) (CR.c (vr_eq (deI_eq h1)) (fun _ h => h))) vs hv
theorem dk44 (cs : List (SV TT)) (e : TT 44) (h : UU.dec 44 cs = some e) (ρ : Nat → Option Value) (M : Mem) (vs : List Value) (hv : CR UU ρ M cs vs) : CR UU ρ M (UU.enc 44 e) vs := by
  match cs, h, hv with
  | [x0], h, hv =>
    obtain ⟨a0, h0, h⟩ := bind_eq h
    cases h
    exact (CR.c (rowOf_vr h0) (fun _ h => h)) vs hv
theorem dk49 (cs : List (SV TT)) (e : TT 49) (h : UU.dec 49 cs = some e) (ρ : Nat → Option Value) (M : Mem) (vs : List Value) (hv : CR UU ρ M cs vs) : CR UU ρ M (UU.enc 49 e) vs := by
  match cs, h, hv with
  | [x0, x1, x2, x3, x4, x5, x6, x7, x8], h, hv =>
    obtain ⟨a0, h0, h⟩ := bind_eq h
    obtain ⟨a1, h1, h⟩ := bind_eq h
    obtain ⟨a2, h2, h⟩ := bind_eq h
    obtain ⟨a3, h3, h⟩ := bind_eq h
    obtain ⟨a4, h4, h⟩ := bind_eq h
    obtain ⟨a5, h5, h⟩ := bind_eq h
    obtain ⟨a6, h6, h⟩ := bind_eq h
    obtain ⟨a7, h7, h⟩ := bind_eq h
    obtain ⟨a8, h8, h⟩ := bind_eq h
    cases h
    exact (CR.c (vr_eq (deI_eq h0)) (CR.c (vr_eq (deI_eq h1)) (CR.c (vr_eq (deI_eq h2)) (CR.c (vr_eq (deI_eq h3)) (CR.c (vr_eq (deI_eq h4)) (CR.c (vr_eq (deI_eq h5)) (CR.c (vr_eq (deB_eq h6)) (CR.c (vr_eq (deS_eq h7)) (CR.c (rowOf_vr h8) (fun _ h => h)))))))))) vs hv
theorem dk63 (cs : List (SV TT)) (e : TT 63) (h : UU.dec 63 cs = some e) (ρ : Nat → Option Value) (M : Mem) (vs : List Value) (hv : CR UU ρ M cs vs) : CR UU ρ M (UU.enc 63 e) vs := by
  match cs, h, hv with
  | [x0], h, hv =>
    obtain ⟨a0, h0, h⟩ := bind_eq h
    cases h
    exact (CR.c (rowOf_vr h0) (fun _ h => h)) vs hv
theorem dk67 (cs : List (SV TT)) (e : TT 67) (h : UU.dec 67 cs = some e) (ρ : Nat → Option Value) (M : Mem) (vs : List Value) (hv : CR UU ρ M cs vs) : CR UU ρ M (UU.enc 67 e) vs := by
  match cs, h, hv with
  | [x0, x1], h, hv =>
    obtain ⟨a0, h0, h⟩ := bind_eq h
    obtain ⟨a1, h1, h⟩ := bind_eq h
    cases h
    exact (CR.c (vr_eq (deS_eq h0)) (CR.c (vr_eq (deI_eq h1)) (fun _ h => h))) vs hv
theorem dk86 (cs : List (SV TT)) (e : TT 86) (h : UU.dec 86 cs = some e) (ρ : Nat → Option Value) (M : Mem) (vs : List Value) (hv : CR UU ρ M cs vs) : CR UU ρ M (UU.enc 86 e) vs := by
  match cs, h, hv with
  | [x0, x1, x2, x3, x4, x5, x6, x7, x8], h, hv =>
    obtain ⟨a0, h0, h⟩ := bind_eq h
    obtain ⟨a1, h1, h⟩ := bind_eq h
    obtain ⟨a2, h2, h⟩ := bind_eq h
    obtain ⟨a3, h3, h⟩ := bind_eq h
    obtain ⟨a4, h4, h⟩ := bind_eq h
    obtain ⟨a5, h5, h⟩ := bind_eq h
    obtain ⟨a6, h6, h⟩ := bind_eq h
    obtain ⟨a7, h7, h⟩ := bind_eq h
    obtain ⟨a8, h8, h⟩ := bind_eq h
    cases h
    exact (CR.c (vr_eq (deI_eq h0)) (CR.c (vr_eq (deI_eq h1)) (CR.c (vr_eq (deI_eq h2)) (CR.c (vr_eq (deI_eq h3)) (CR.c (vr_eq (deI_eq h4)) (CR.c (vr_eq (deI_eq h5)) (CR.c (vr_eq (deB_eq h6)) (CR.c (vr_eq (deS_eq h7)) (CR.c (rowOf_vr h8) (fun _ h => h)))))))))) vs hv
theorem dk94 (cs : List (SV TT)) (e : TT 94) (h : UU.dec 94 cs = some e) (ρ : Nat → Option Value) (M : Mem) (vs : List Value) (hv : CR UU ρ M cs vs) : CR UU ρ M (UU.enc 94 e) vs := by
  match cs, h, hv with
  | [x0, x1], h, hv =>
    obtain ⟨a0, h0, h⟩ := bind_eq h
    obtain ⟨a1, h1, h⟩ := bind_eq h
    cases h
    exact (CR.c (vr_eq (deS_eq h0)) (CR.c (vr_eq (deI_eq h1)) (fun _ h => h))) vs hv
theorem uu : UOk UU where
  len := fun t x => by
    revert x; show ∀ x : TT t, ((ent t).enc x).length = (ent t).sz; unfold ent TT; split <;> intro x <;> rfl
  nr := fun t x => by
    revert x; show ∀ x : TT t, ((ent t).enc x).all nr1 = true; unfold ent TT; split <;> intro x <;> rfl
  dec := fun t cs => by
    show ∀ e : TT t, (ent t).dec cs = some e → ∀ ρ M vs, CR UU ρ M cs vs → CR UU ρ M ((ent t).enc e) vs
    unfold ent TT
    split
    · exact dk3 cs
    · exact dk4 cs
    · exact dk9 cs
    · exact dk24 cs
    · exact dk29 cs
    · exact dk34 cs
    · exact dk37 cs
    · exact dk44 cs
    · exact dk49 cs
    · exact dk63 cs
    · exact dk67 cs
    · exact dk86 cs
    · exact dk94 cs
    · intro e h; cases h
open Go.Proofs
theorem mixed : Try.prog.follows .mixedOrders = true := by kernel_rfl
end Go.Sx
