/- The element types of this seat's rows. No condition. -/
import Derived.Test.YtpljcphiaajjaaaSzT
import Derived.Test.YtpljcphiaajjaaaProg
set_option linter.unusedVariables false
set_option linter.unusedSimpArgs false
namespace Go.Sx
open Go.RowKit
structure S47 where
  f0 : ByteArray
  f1 : Int
  deriving DecidableEq, Inhabited
structure S34 where
  f0 : Int
  f1 : Int
  f2 : Int
  f3 : Int
  f4 : Int
  f5 : Int
  f6 : Bool
  f7 : ByteArray
  f8 : (List S47)
  deriving DecidableEq, Inhabited
structure S27 where
  f0 : (List S34)
  deriving DecidableEq, Inhabited
structure S52 where
  f0 : Int
  f1 : Int
  f2 : (List Int)
  deriving DecidableEq, Inhabited
structure S94 where
  f0 : (List Int)
  f1 : Int
  deriving DecidableEq, Inhabited
abbrev TT (t : Nat) : Type := match t with
  | 3 => Int
  | 4 => Bool
  | 5 => Int
  | 9 => ByteArray
  | 27 => S27
  | 34 => S34
  | 38 => S27
  | 47 => S47
  | 52 => S52
  | 55 => S52
  | 91 => Int
  | 94 => S94
  | 100 => S34
  | 126 => S47
  | _ => Unit
def defT (t : Nat) : TT t := by unfold TT; split <;> exact default
structure Ent (A : Type) where
  sz : Nat
  dflt : A
  enc : A → List (SV TT)
  dec : List (SV TT) → Option A
def ent (t : Nat) : Ent (TT t) := match t with
  | 3 => ⟨1, (0 : Int), fun x => [.v (.int .i64 x)], fun l => match l with
    | [x0] => (deI .i64 x0).bind fun a0 => some a0
    | _ => none⟩
  | 4 => ⟨1, (false : Bool), fun x => [.v (.bool x)], fun l => match l with
    | [x0] => (deB x0).bind fun a0 => some a0
    | _ => none⟩
  | 5 => ⟨1, (0 : Int), fun x => [.v (.int .u8 x)], fun l => match l with
    | [x0] => (deI .u8 x0).bind fun a0 => some a0
    | _ => none⟩
  | 9 => ⟨1, (ByteArray.empty : ByteArray), fun x => [.v (.string x)], fun l => match l with
    | [x0] => (deS x0).bind fun a0 => some a0
    | _ => none⟩
  | 27 => ⟨1, (⟨[]⟩ : S27), fun x => [.row 34 x.f0], fun l => match l with
    | [x0] => (rowOf 34 x0).bind fun a0 => some ⟨a0⟩
    | _ => none⟩
  | 34 => ⟨9, (⟨0, 0, 0, 0, 0, 0, false, ByteArray.empty, []⟩ : S34), fun x => [.v (.int .i64 x.f0), .v (.int .i64 x.f1), .v (.int .i64 x.f2), .v (.int .i64 x.f3), .v (.int .i64 x.f4), .v (.int .i64 x.f5), .v (.bool x.f6), .v (.string x.f7), .row 47 x.f8], fun l => match l with
    | [x0, x1, x2, x3, x4, x5, x6, x7, x8] => (deI .i64 x0).bind fun a0 => (deI .i64 x1).bind fun a1 => (deI .i64 x2).bind fun a2 => (deI .i64 x3).bind fun a3 => (deI .i64 x4).bind fun a4 => (deI .i64 x5).bind fun a5 => (deB x6).bind fun a6 => (deS x7).bind fun a7 => (rowOf 47 x8).bind fun a8 => some ⟨a0, a1, a2, a3, a4, a5, a6, a7, a8⟩
    | _ => none⟩
  | 38 => ⟨1, (⟨[]⟩ : S27), fun x => [.row 100 x.f0], fun l => match l with
    | [x0] => (rowOf 100 x0).bind fun a0 => some ⟨a0⟩
    | _ => none⟩
  | 47 => ⟨2, (⟨ByteArray.empty, 0⟩ : S47), fun x => [.v (.string x.f0), .v (.int .i64 x.f1)], fun l => match l with
    | [x0, x1] => (deS x0).bind fun a0 => (deI .i64 x1).bind fun a1 => some ⟨a0, a1⟩
    | _ => none⟩
  | 52 => ⟨3, (⟨0, 0, []⟩ : S52), fun x => [.v (.int .i64 x.f0), .v (.int .i64 x.f1), .row 3 x.f2], fun l => match l with
    | [x0, x1, x2] => (deI .i64 x0).bind fun a0 => (deI .i64 x1).bind fun a1 => (rowOf 3 x2).bind fun a2 => some ⟨a0, a1, a2⟩
    | _ => none⟩
  | 55 => ⟨3, (⟨0, 0, []⟩ : S52), fun x => [.v (.int .i64 x.f0), .v (.int .i64 x.f1), .row 3 x.f2], fun l => match l with
    | [x0, x1, x2] => (deI .i64 x0).bind fun a0 => (deI .i64 x1).bind fun a1 => (rowOf 3 x2).bind fun a2 => some ⟨a0, a1, a2⟩
    | _ => none⟩
  | 91 => ⟨1, (0 : Int), fun x => [.v (.int .i64 x)], fun l => match l with
    | [x0] => (deI .i64 x0).bind fun a0 => some a0
    | _ => none⟩
  | 94 => ⟨2, (⟨[], 0⟩ : S94), fun x => [.row 5 x.f0, .v (.int .i64 x.f1)], fun l => match l with
    | [x0, x1] => (rowOf 5 x0).bind fun a0 => (deI .i64 x1).bind fun a1 => some ⟨a0, a1⟩
    | _ => none⟩
  | 100 => ⟨9, (⟨0, 0, 0, 0, 0, 0, false, ByteArray.empty, []⟩ : S34), fun x => [.v (.int .i64 x.f0), .v (.int .i64 x.f1), .v (.int .i64 x.f2), .v (.int .i64 x.f3), .v (.int .i64 x.f4), .v (.int .i64 x.f5), .v (.bool x.f6), .v (.string x.f7), .row 126 x.f8], fun l => match l with
    | [x0, x1, x2, x3, x4, x5, x6, x7, x8] => (deI .i64 x0).bind fun a0 => (deI .i64 x1).bind fun a1 => (deI .i64 x2).bind fun a2 => (deI .i64 x3).bind fun a3 => (deI .i64 x4).bind fun a4 => (deI .i64 x5).bind fun a5 => (deB x6).bind fun a6 => (deS x7).bind fun a7 => (rowOf 126 x8).bind fun a8 => some ⟨a0, a1, a2, a3, a4, a5, a6, a7, a8⟩
    | _ => none⟩
  | 126 => ⟨2, (⟨ByteArray.empty, 0⟩ : S47), fun x => [.v (.string x.f0), .v (.int .i64 x.f1)], fun l => match l with
    | [x0, x1] => (deS x0).bind fun a0 => (deI .i64 x1).bind fun a1 => some ⟨a0, a1⟩
    | _ => none⟩
  | t => ⟨0, defT t, fun _ => [], fun _ => none⟩
def rd3 (xs : List Int) (i : Int) : Int := xs.getD i.toNat 0
theorem rd3_at {xs : List Int} {i : Nat} (h : i < xs.length) : rd3 xs (i : Int) = xs[i] := by simp [rd3, h]
def rd4 (xs : List Bool) (i : Int) : Bool := xs.getD i.toNat false
theorem rd4_at {xs : List Bool} {i : Nat} (h : i < xs.length) : rd4 xs (i : Int) = xs[i] := by simp [rd4, h]
def rd5 (xs : List Int) (i : Int) : Int := xs.getD i.toNat 0
theorem rd5_at {xs : List Int} {i : Nat} (h : i < xs.length) : rd5 xs (i : Int) = xs[i] := by simp [rd5, h]
def rd9 (xs : List ByteArray) (i : Int) : ByteArray := xs.getD i.toNat ByteArray.empty
theorem rd9_at {xs : List ByteArray} {i : Nat} (h : i < xs.length) : rd9 xs (i : Int) = xs[i] := by simp [rd9, h]
def rd27 (xs : List S27) (i : Int) : S27 := xs.getD i.toNat ⟨[]⟩
theorem rd27_at {xs : List S27} {i : Nat} (h : i < xs.length) : rd27 xs (i : Int) = xs[i] := by simp [rd27, h]
def rd34 (xs : List S34) (i : Int) : S34 := xs.getD i.toNat ⟨0, 0, 0, 0, 0, 0, false, ByteArray.empty, []⟩
theorem rd34_at {xs : List S34} {i : Nat} (h : i < xs.length) : rd34 xs (i : Int) = xs[i] := by simp [rd34, h]
def rd38 (xs : List S27) (i : Int) : S27 := xs.getD i.toNat ⟨[]⟩
theorem rd38_at {xs : List S27} {i : Nat} (h : i < xs.length) : rd38 xs (i : Int) = xs[i] := by simp [rd38, h]
def rd47 (xs : List S47) (i : Int) : S47 := xs.getD i.toNat ⟨ByteArray.empty, 0⟩
theorem rd47_at {xs : List S47} {i : Nat} (h : i < xs.length) : rd47 xs (i : Int) = xs[i] := by simp [rd47, h]
def rd52 (xs : List S52) (i : Int) : S52 := xs.getD i.toNat ⟨0, 0, []⟩
theorem rd52_at {xs : List S52} {i : Nat} (h : i < xs.length) : rd52 xs (i : Int) = xs[i] := by simp [rd52, h]
def rd55 (xs : List S52) (i : Int) : S52 := xs.getD i.toNat ⟨0, 0, []⟩
theorem rd55_at {xs : List S52} {i : Nat} (h : i < xs.length) : rd55 xs (i : Int) = xs[i] := by simp [rd55, h]
def rd91 (xs : List Int) (i : Int) : Int := xs.getD i.toNat 0
theorem rd91_at {xs : List Int} {i : Nat} (h : i < xs.length) : rd91 xs (i : Int) = xs[i] := by simp [rd91, h]
def rd94 (xs : List S94) (i : Int) : S94 := xs.getD i.toNat ⟨[], 0⟩
theorem rd94_at {xs : List S94} {i : Nat} (h : i < xs.length) : rd94 xs (i : Int) = xs[i] := by simp [rd94, h]
def rd100 (xs : List S34) (i : Int) : S34 := xs.getD i.toNat ⟨0, 0, 0, 0, 0, 0, false, ByteArray.empty, []⟩
theorem rd100_at {xs : List S34} {i : Nat} (h : i < xs.length) : rd100 xs (i : Int) = xs[i] := by simp [rd100, h]
def rd126 (xs : List S47) (i : Int) : S47 := xs.getD i.toNat ⟨ByteArray.empty, 0⟩
theorem rd126_at {xs : List S47} {i : Nat} (h : i < xs.length) : rd126 xs (i : Int) = xs[i] := by simp [rd126, h]
def u8T (t : Nat) : Option (TT t → Int) := match t with
  | 5 => some fun x => x
  | _ => none
def UU (E : Bool) : Univ TT := ⟨fun t => (ent t).sz, fun t => (ent t).dflt, fun t x => (ent t).enc x, fun t l => (ent t).dec l, u8T, some 47, E⟩
theorem bind_eq {A B : Type} {o : Option A} {f : A → Option B} {b : B} (h : o.bind f = some b) : ∃ a, o = some a ∧ f a = some b := by
  cases o with
  | none => cases h
  | some a => exact ⟨a, rfl, h⟩
theorem dk3 (E : Bool) (cs : List (SV TT)) (e : TT 3) (h : (UU E).dec 3 cs = some e) : CellsTo (UU E) cs ((UU E).enc 3 e) := by
  match cs, h with
  | [x0], h =>
    obtain ⟨a0, h0, h⟩ := bind_eq h
    cases h
    exact ⟨cell_to (deI_eq h0), trivial⟩
theorem dk4 (E : Bool) (cs : List (SV TT)) (e : TT 4) (h : (UU E).dec 4 cs = some e) : CellsTo (UU E) cs ((UU E).enc 4 e) := by
  match cs, h with
  | [x0], h =>
    obtain ⟨a0, h0, h⟩ := bind_eq h
    cases h
    exact ⟨cell_to (deB_eq h0), trivial⟩
theorem dk5 (E : Bool) (cs : List (SV TT)) (e : TT 5) (h : (UU E).dec 5 cs = some e) : CellsTo (UU E) cs ((UU E).enc 5 e) := by
  match cs, h with
  | [x0], h =>
    obtain ⟨a0, h0, h⟩ := bind_eq h
    cases h
    exact ⟨cell_to (deI_eq h0), trivial⟩
theorem dk9 (E : Bool) (cs : List (SV TT)) (e : TT 9) (h : (UU E).dec 9 cs = some e) : CellsTo (UU E) cs ((UU E).enc 9 e) := by
  match cs, h with
  | [x0], h =>
    obtain ⟨a0, h0, h⟩ := bind_eq h
    cases h
    exact ⟨cell_to (deS_eq h0), trivial⟩
theorem dk27 (E : Bool) (cs : List (SV TT)) (e : TT 27) (h : (UU E).dec 27 cs = some e) : CellsTo (UU E) cs ((UU E).enc 27 e) := by
  match cs, h with
  | [x0], h =>
    obtain ⟨a0, h0, h⟩ := bind_eq h
    cases h
    exact ⟨rowOf_to h0, trivial⟩
theorem dk34 (E : Bool) (cs : List (SV TT)) (e : TT 34) (h : (UU E).dec 34 cs = some e) : CellsTo (UU E) cs ((UU E).enc 34 e) := by
  match cs, h with
  | [x0, x1, x2, x3, x4, x5, x6, x7, x8], h =>
    obtain ⟨a0, h0, h⟩ := bind_eq h
    obtain ⟨a1, h1, h⟩ := bind_eq h
    obtain ⟨a2, h2, h⟩ := bind_eq h
    obtain ⟨a3, h3, h⟩ := bind_eq h
    obtain ⟨a4, h4, h⟩ := bind_eq h
    obtain ⟨a5, h5, h⟩ := bind_eq h
    obtain ⟨a6, h6, h⟩ := bind_eq h
    obtain ⟨a7, h7, h⟩ := bind_eq h
    obtain ⟨a8, h8, h⟩ := bind_eq h
    cases h
    exact ⟨cell_to (deI_eq h0), cell_to (deI_eq h1), cell_to (deI_eq h2), cell_to (deI_eq h3), cell_to (deI_eq h4), cell_to (deI_eq h5), cell_to (deB_eq h6), cell_to (deS_eq h7), rowOf_to h8, trivial⟩
theorem dk38 (E : Bool) (cs : List (SV TT)) (e : TT 38) (h : (UU E).dec 38 cs = some e) : CellsTo (UU E) cs ((UU E).enc 38 e) := by
  match cs, h with
  | [x0], h =>
    obtain ⟨a0, h0, h⟩ := bind_eq h
    cases h
    exact ⟨rowOf_to h0, trivial⟩
theorem dk47 (E : Bool) (cs : List (SV TT)) (e : TT 47) (h : (UU E).dec 47 cs = some e) : CellsTo (UU E) cs ((UU E).enc 47 e) := by
  match cs, h with
  | [x0, x1], h =>
    obtain ⟨a0, h0, h⟩ := bind_eq h
    obtain ⟨a1, h1, h⟩ := bind_eq h
    cases h
    exact ⟨cell_to (deS_eq h0), cell_to (deI_eq h1), trivial⟩
theorem dk52 (E : Bool) (cs : List (SV TT)) (e : TT 52) (h : (UU E).dec 52 cs = some e) : CellsTo (UU E) cs ((UU E).enc 52 e) := by
  match cs, h with
  | [x0, x1, x2], h =>
    obtain ⟨a0, h0, h⟩ := bind_eq h
    obtain ⟨a1, h1, h⟩ := bind_eq h
    obtain ⟨a2, h2, h⟩ := bind_eq h
    cases h
    exact ⟨cell_to (deI_eq h0), cell_to (deI_eq h1), rowOf_to h2, trivial⟩
theorem dk55 (E : Bool) (cs : List (SV TT)) (e : TT 55) (h : (UU E).dec 55 cs = some e) : CellsTo (UU E) cs ((UU E).enc 55 e) := by
  match cs, h with
  | [x0, x1, x2], h =>
    obtain ⟨a0, h0, h⟩ := bind_eq h
    obtain ⟨a1, h1, h⟩ := bind_eq h
    obtain ⟨a2, h2, h⟩ := bind_eq h
    cases h
    exact ⟨cell_to (deI_eq h0), cell_to (deI_eq h1), rowOf_to h2, trivial⟩
theorem dk91 (E : Bool) (cs : List (SV TT)) (e : TT 91) (h : (UU E).dec 91 cs = some e) : CellsTo (UU E) cs ((UU E).enc 91 e) := by
  match cs, h with
  | [x0], h =>
    obtain ⟨a0, h0, h⟩ := bind_eq h
    cases h
    exact ⟨cell_to (deI_eq h0), trivial⟩
theorem dk94 (E : Bool) (cs : List (SV TT)) (e : TT 94) (h : (UU E).dec 94 cs = some e) : CellsTo (UU E) cs ((UU E).enc 94 e) := by
  match cs, h with
  | [x0, x1], h =>
    obtain ⟨a0, h0, h⟩ := bind_eq h
    obtain ⟨a1, h1, h⟩ := bind_eq h
    cases h
    exact ⟨rowOf_to h0, cell_to (deI_eq h1), trivial⟩
theorem dk100 (E : Bool) (cs : List (SV TT)) (e : TT 100) (h : (UU E).dec 100 cs = some e) : CellsTo (UU E) cs ((UU E).enc 100 e) := by
  match cs, h with
  | [x0, x1, x2, x3, x4, x5, x6, x7, x8], h =>
    obtain ⟨a0, h0, h⟩ := bind_eq h
    obtain ⟨a1, h1, h⟩ := bind_eq h
    obtain ⟨a2, h2, h⟩ := bind_eq h
    obtain ⟨a3, h3, h⟩ := bind_eq h
    obtain ⟨a4, h4, h⟩ := bind_eq h
    obtain ⟨a5, h5, h⟩ := bind_eq h
    obtain ⟨a6, h6, h⟩ := bind_eq h
    obtain ⟨a7, h7, h⟩ := bind_eq h
    obtain ⟨a8, h8, h⟩ := bind_eq h
    cases h
    exact ⟨cell_to (deI_eq h0), cell_to (deI_eq h1), cell_to (deI_eq h2), cell_to (deI_eq h3), cell_to (deI_eq h4), cell_to (deI_eq h5), cell_to (deB_eq h6), cell_to (deS_eq h7), rowOf_to h8, trivial⟩
theorem dk126 (E : Bool) (cs : List (SV TT)) (e : TT 126) (h : (UU E).dec 126 cs = some e) : CellsTo (UU E) cs ((UU E).enc 126 e) := by
  match cs, h with
  | [x0, x1], h =>
    obtain ⟨a0, h0, h⟩ := bind_eq h
    obtain ⟨a1, h1, h⟩ := bind_eq h
    cases h
    exact ⟨cell_to (deS_eq h0), cell_to (deI_eq h1), trivial⟩
theorem uu (E : Bool) : UOk (UU E) where
  len := fun t x => by
    revert x; show ∀ x : TT t, ((ent t).enc x).length = (ent t).sz; unfold ent TT; split <;> intro x <;> rfl
  nr := fun t x => by
    revert x; show ∀ x : TT t, ((ent t).enc x).all nr1 = true; unfold ent TT; split <;> intro x <;> rfl
  dcs := fun t cs => by
    show ∀ e : TT t, (ent t).dec cs = some e → CellsTo (UU E) cs ((ent t).enc e)
    unfold ent TT
    split
    · exact dk3 E cs
    · exact dk4 E cs
    · exact dk5 E cs
    · exact dk9 E cs
    · exact dk27 E cs
    · exact dk34 E cs
    · exact dk38 E cs
    · exact dk47 E cs
    · exact dk52 E cs
    · exact dk55 E cs
    · exact dk91 E cs
    · exact dk94 E cs
    · exact dk100 E cs
    · exact dk126 E cs
    · intro e h; cases h
  u8 := fun t => by
    show ∀ f, u8T t = some f → ∀ x : TT t, (ent t).enc x = [.v (.int .u8 (f x))]
    unfold u8T
    split
    · intro f h x; cases h; rfl
    · intro f h; cases h
open Go.Proofs
theorem mixed : Try.prog.follows .mixedOrders = true := by kernel_rfl
end Go.Sx
