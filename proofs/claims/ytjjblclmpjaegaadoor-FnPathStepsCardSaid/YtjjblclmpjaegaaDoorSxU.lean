/- The element types of this seat's rows. No condition. -/
import Derived.Test.YtjjblclmpjaegaaDoorSxT
import Derived.Test.YtjjblclmpjaegaaDoorProg
set_option linter.unusedVariables false
set_option linter.unusedSimpArgs false
namespace Go.Sx
open Go.RowKit
structure S46 where
  f0 : (List Int)
  f1 : Int
  deriving DecidableEq, Inhabited
abbrev TT (t : Nat) : Type := match t with
  | 3 => Int
  | 4 => Bool
  | 5 => Int
  | 9 => ByteArray
  | 46 => S46
  | _ => Unit
def defT (t : Nat) : TT t := by unfold TT; split <;> exact default
structure Ent (A : Type) where
  sz : Nat
  dflt : A
  enc : A → List (SV TT)
  dec : List (SV TT) → Option A
def ent (t : Nat) : Ent (TT t) := match t with
  | 3 => ⟨1, (0 : Int), fun x => [.v (.int .i64 x)], fun l => match l with
    | [x0] => (deI .i64 x0).bind fun a0 => some a0
    | _ => none⟩
  | 4 => ⟨1, (false : Bool), fun x => [.v (.bool x)], fun l => match l with
    | [x0] => (deB x0).bind fun a0 => some a0
    | _ => none⟩
  | 5 => ⟨1, (0 : Int), fun x => [.v (.int .u8 x)], fun l => match l with
    | [x0] => (deI .u8 x0).bind fun a0 => some a0
    | _ => none⟩
  | 9 => ⟨1, (ByteArray.empty : ByteArray), fun x => [.v (.string x)], fun l => match l with
    | [x0] => (deS x0).bind fun a0 => some a0
    | _ => none⟩
  | 46 => ⟨2, (⟨[], 0⟩ : S46), fun x => [.row 5 x.f0, .v (.int .i64 x.f1)], fun l => match l with
    | [x0, x1] => (rowOf 5 x0).bind fun a0 => (deI .i64 x1).bind fun a1 => some ⟨a0, a1⟩
    | _ => none⟩
  | t => ⟨0, defT t, fun _ => [], fun _ => none⟩
def rd3 (xs : List Int) (i : Int) : Int := xs.getD i.toNat 0
theorem rd3_at {xs : List Int} {i : Nat} (h : i < xs.length) : rd3 xs (i : Int) = xs[i] := by simp [rd3, h]
def rd4 (xs : List Bool) (i : Int) : Bool := xs.getD i.toNat false
theorem rd4_at {xs : List Bool} {i : Nat} (h : i < xs.length) : rd4 xs (i : Int) = xs[i] := by simp [rd4, h]
def rd5 (xs : List Int) (i : Int) : Int := xs.getD i.toNat 0
theorem rd5_at {xs : List Int} {i : Nat} (h : i < xs.length) : rd5 xs (i : Int) = xs[i] := by simp [rd5, h]
def rd9 (xs : List ByteArray) (i : Int) : ByteArray := xs.getD i.toNat ByteArray.empty
theorem rd9_at {xs : List ByteArray} {i : Nat} (h : i < xs.length) : rd9 xs (i : Int) = xs[i] := by simp [rd9, h]
def rd46 (xs : List S46) (i : Int) : S46 := xs.getD i.toNat ⟨[], 0⟩
theorem rd46_at {xs : List S46} {i : Nat} (h : i < xs.length) : rd46 xs (i : Int) = xs[i] := by simp [rd46, h]
def u8T (t : Nat) : Option (TT t → Int) := match t with
  | 5 => some fun x => x
  | _ => none
def UU : Univ TT := ⟨fun t => (ent t).sz, fun t => (ent t).dflt, fun t x => (ent t).enc x, fun t l => (ent t).dec l, u8T⟩
theorem bind_eq {A B : Type} {o : Option A} {f : A → Option B} {b : B} (h : o.bind f = some b) : ∃ a, o = some a ∧ f a = some b := by
  cases o with
  | none => cases h
  | some a => exact ⟨a, rfl, h⟩
theorem vr_eq {x y : SV TT} (h : x = y) {ρ : Nat → Option Value} {M : Mem} (v : Value) (hv : VR UU ρ M x v) : VR UU ρ M y v := h ▸ hv
theorem dk3 (cs : List (SV TT)) (e : TT 3) (h : UU.dec 3 cs = some e) (ρ : Nat → Option Value) (M : Mem) (vs : List Value) (hv : CR UU ρ M cs vs) : CR UU ρ M (UU.enc 3 e) vs := by
  match cs, h, hv with
  | [x0], h, hv =>
    obtain ⟨a0, h0, h⟩ := bind_eq h
    cases h
    exact (CR.c (vr_eq (deI_eq h0)) (fun _ h => h)) vs hv
theorem dk4 (cs : List (SV TT)) (e : TT 4) (h : UU.dec 4 cs = some e) (ρ : Nat → Option Value) (M : Mem) (vs : List Value) (hv : CR UU ρ M cs vs) : CR UU ρ M (UU.enc 4 e) vs := by
  match cs, h, hv with
  | [x0], h, hv =>
    obtain ⟨a0, h0, h⟩ := bind_eq h
    cases h
    exact (CR.c (vr_eq (deB_eq h0)) (fun _ h => h)) vs hv
theorem dk5 (cs : List (SV TT)) (e : TT 5) (h : UU.dec 5 cs = some e) (ρ : Nat → Option Value) (M : Mem) (vs : List Value) (hv : CR UU ρ M cs vs) : CR UU ρ M (UU.enc 5 e) vs := by
  match cs, h, hv with
  | [x0], h, hv =>
    obtain ⟨a0, h0, h⟩ := bind_eq h
    cases h
    exact (CR.c (vr_eq (deI_eq h0)) (fun _ h => h)) vs hv
theorem dk9 (cs : List (SV TT)) (e : TT 9) (h : UU.dec 9 cs = some e) (ρ : Nat → Option Value) (M : Mem) (vs : List Value) (hv : CR UU ρ M cs vs) : CR UU ρ M (UU.enc 9 e) vs := by
  match cs, h, hv with
  | [x0], h, hv =>
    obtain ⟨a0, h0, h⟩ := bind_eq h
    cases h
    exact (CR.c (vr_eq (deS_eq h0)) (fun _ h => h)) vs hv
theorem dk46 (cs : List (SV TT)) (e : TT 46) (h : UU.dec 46 cs = some e) (ρ : Nat → Option Value) (M : Mem) (vs : List Value) (hv : CR UU ρ M cs vs) : CR UU ρ M (UU.enc 46 e) vs := by
  match cs, h, hv with
  | [x0, x1], h, hv =>
    obtain ⟨a0, h0, h⟩ := bind_eq h
    obtain ⟨a1, h1, h⟩ := bind_eq h
    cases h
    exact (CR.c (rowOf_vr h0) (CR.c (vr_eq (deI_eq h1)) (fun _ h => h))) vs hv
theorem uu : UOk UU where
  len := fun t x => by
    revert x; show ∀ x : TT t, ((ent t).enc x).length = (ent t).sz; unfold ent TT; split <;> intro x <;> rfl
  nr := fun t x => by
    revert x; show ∀ x : TT t, ((ent t).enc x).all nr1 = true; unfold ent TT; split <;> intro x <;> rfl
  dec := fun t cs => by
    show ∀ e : TT t, (ent t).dec cs = some e → ∀ ρ M vs, CR UU ρ M cs vs → CR UU ρ M ((ent t).enc e) vs
    unfold ent TT
    split
    · exact dk3 cs
    · exact dk4 cs
    · exact dk5 cs
    · exact dk9 cs
    · exact dk46 cs
    · intro e h; cases h
  u8 := fun t => by
    show ∀ f, u8T t = some f → ∀ x : TT t, (ent t).enc x = [.v (.int .u8 (f x))]
    unfold u8T
    split
    · intro f h x; cases h; rfl
    · intro f h; cases h
open Go.Proofs
theorem mixed : Tryd.prog.follows .mixedOrders = true := by kernel_rfl
end Go.Sx
