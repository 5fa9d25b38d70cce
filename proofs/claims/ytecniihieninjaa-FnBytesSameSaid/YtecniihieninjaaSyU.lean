/- The element types of this seat's rows. No condition. -/
import Derived.Test.YtecniihieninjaaSySh
import Derived.Test.YtecniihieninjaaProg
set_option linter.unusedVariables false
set_option linter.unusedSimpArgs false
namespace Go.Sx
open Go.RowKit
structure S28 where
  f0 : Int
  f1 : Nat
  f2 : Nat
  deriving DecidableEq, Inhabited
structure S45 where
  f0 : Nat
  deriving DecidableEq, Inhabited
structure S60 where
  f0 : Int
  f1 : Int
  f2 : Int
  f3 : Bool
  deriving DecidableEq, Inhabited
structure S74 where
  f0 : Bool
  f1 : Nat
  f2 : Nat
  f3 : Nat
  deriving DecidableEq, Inhabited
structure S76 where
  f0 : Int
  f1 : Int
  f2 : Bool
  f3 : Bool
  deriving DecidableEq, Inhabited
structure S86 where
  f0 : Nat
  f1 : Nat
  deriving DecidableEq, Inhabited
structure S89 where
  f0 : Nat
  f1 : Nat
  f2 : Nat
  f3 : Nat
  f4 : Nat
  f5 : Int
  deriving DecidableEq, Inhabited
structure S94 where
  f0 : (List Int)
  f1 : Int
  deriving DecidableEq, Inhabited
structure S114 where
  f0 : Bool
  f1 : Nat
  f2 : Nat
  deriving DecidableEq, Inhabited
abbrev TT (t : Nat) : Type := match t with
  | 3 => Int
  | 4 => Bool
  | 5 => Int
  | 9 => ByteArray
  | 28 => S28
  | 39 => S28
  | 45 => S45
  | 50 => S45
  | 60 => S60
  | 74 => S74
  | 76 => S76
  | 86 => S86
  | 89 => S89
  | 94 => S94
  | 97 => S60
  | 101 => S74
  | 114 => S114
  | 116 => S76
  | 147 => S76
  | _ => Unit
def defT (t : Nat) : TT t := by unfold TT; split <;> exact default
structure Ent (A : Type) where
  sz : Nat
  dflt : A
  enc : A → List (SV TT)
  dec : List (SV TT) → Option A
def ent (t : Nat) : Ent (TT t) := match t with
  | 3 => ⟨1, (0 : Int), fun x => [.v (.int .i64 x)], fun l => match l with
    | [x0] => (deI .i64 x0).bind fun a0 => some a0
    | _ => none⟩
  | 4 => ⟨1, (false : Bool), fun x => [.v (.bool x)], fun l => match l with
    | [x0] => (deB x0).bind fun a0 => some a0
    | _ => none⟩
  | 5 => ⟨1, (0 : Int), fun x => [.v (.int .u8 x)], fun l => match l with
    | [x0] => (deI .u8 x0).bind fun a0 => some a0
    | _ => none⟩
  | 9 => ⟨1, (ByteArray.empty : ByteArray), fun x => [.v (.string x)], fun l => match l with
    | [x0] => (deS x0).bind fun a0 => some a0
    | _ => none⟩
  | 28 => ⟨3, (⟨0, 0, 0⟩ : S28), fun x => [.v (.int .i64 x.f0), .hnd 60 x.f1, .hnd 3 x.f2], fun l => match l with
    | [x0, x1, x2] => (deI .i64 x0).bind fun a0 => (deH 60 x1).bind fun a1 => (deH 3 x2).bind fun a2 => some ⟨a0, a1, a2⟩
    | _ => none⟩
  | 39 => ⟨3, (⟨0, 0, 0⟩ : S28), fun x => [.v (.int .i64 x.f0), .hnd 97 x.f1, .hnd 3 x.f2], fun l => match l with
    | [x0, x1, x2] => (deI .i64 x0).bind fun a0 => (deH 97 x1).bind fun a1 => (deH 3 x2).bind fun a2 => some ⟨a0, a1, a2⟩
    | _ => none⟩
  | 45 => ⟨1, (⟨0⟩ : S45), fun x => [.hnd 101 x.f0], fun l => match l with
    | [x0] => (deH 101 x0).bind fun a0 => some ⟨a0⟩
    | _ => none⟩
  | 50 => ⟨1, (⟨0⟩ : S45), fun x => [.hnd 74 x.f0], fun l => match l with
    | [x0] => (deH 74 x0).bind fun a0 => some ⟨a0⟩
    | _ => none⟩
  | 60 => ⟨4, (⟨0, 0, 0, false⟩ : S60), fun x => [.v (.int .i64 x.f0), .v (.int .i64 x.f1), .v (.int .i64 x.f2), .v (.bool x.f3)], fun l => match l with
    | [x0, x1, x2, x3] => (deI .i64 x0).bind fun a0 => (deI .i64 x1).bind fun a1 => (deI .i64 x2).bind fun a2 => (deB x3).bind fun a3 => some ⟨a0, a1, a2, a3⟩
    | _ => none⟩
  | 74 => ⟨4, (⟨false, 0, 0, 0⟩ : S74), fun x => [.v (.bool x.f0), .hnd 76 x.f1, .hnd 3 x.f2, .hnd 9 x.f3], fun l => match l with
    | [x0, x1, x2, x3] => (deB x0).bind fun a0 => (deH 76 x1).bind fun a1 => (deH 3 x2).bind fun a2 => (deH 9 x3).bind fun a3 => some ⟨a0, a1, a2, a3⟩
    | _ => none⟩
  | 76 => ⟨4, (⟨0, 0, false, false⟩ : S76), fun x => [.v (.int .i64 x.f0), .v (.int .i64 x.f1), .v (.bool x.f2), .v (.bool x.f3)], fun l => match l with
    | [x0, x1, x2, x3] => (deI .i64 x0).bind fun a0 => (deI .i64 x1).bind fun a1 => (deB x2).bind fun a2 => (deB x3).bind fun a3 => some ⟨a0, a1, a2, a3⟩
    | _ => none⟩
  | 86 => ⟨2, (⟨0, 0⟩ : S86), fun x => [.hnd 9 x.f0, .hnd 3 x.f1], fun l => match l with
    | [x0, x1] => (deH 9 x0).bind fun a0 => (deH 3 x1).bind fun a1 => some ⟨a0, a1⟩
    | _ => none⟩
  | 89 => ⟨6, (⟨0, 0, 0, 0, 0, 0⟩ : S89), fun x => [.hnd 9 x.f0, .hnd 3 x.f1, .hnd 9 x.f2, .hnd 3 x.f3, .hnd 114 x.f4, .v (.int .i64 x.f5)], fun l => match l with
    | [x0, x1, x2, x3, x4, x5] => (deH 9 x0).bind fun a0 => (deH 3 x1).bind fun a1 => (deH 9 x2).bind fun a2 => (deH 3 x3).bind fun a3 => (deH 114 x4).bind fun a4 => (deI .i64 x5).bind fun a5 => some ⟨a0, a1, a2, a3, a4, a5⟩
    | _ => none⟩
  | 94 => ⟨2, (⟨[], 0⟩ : S94), fun x => [.row 5 x.f0, .v (.int .i64 x.f1)], fun l => match l with
    | [x0, x1] => (rowOf 5 x0).bind fun a0 => (deI .i64 x1).bind fun a1 => some ⟨a0, a1⟩
    | _ => none⟩
  | 97 => ⟨4, (⟨0, 0, 0, false⟩ : S60), fun x => [.v (.int .i64 x.f0), .v (.int .i64 x.f1), .v (.int .i64 x.f2), .v (.bool x.f3)], fun l => match l with
    | [x0, x1, x2, x3] => (deI .i64 x0).bind fun a0 => (deI .i64 x1).bind fun a1 => (deI .i64 x2).bind fun a2 => (deB x3).bind fun a3 => some ⟨a0, a1, a2, a3⟩
    | _ => none⟩
  | 101 => ⟨4, (⟨false, 0, 0, 0⟩ : S74), fun x => [.v (.bool x.f0), .hnd 147 x.f1, .hnd 3 x.f2, .hnd 9 x.f3], fun l => match l with
    | [x0, x1, x2, x3] => (deB x0).bind fun a0 => (deH 147 x1).bind fun a1 => (deH 3 x2).bind fun a2 => (deH 9 x3).bind fun a3 => some ⟨a0, a1, a2, a3⟩
    | _ => none⟩
  | 114 => ⟨3, (⟨false, 0, 0⟩ : S114), fun x => [.v (.bool x.f0), .hnd 76 x.f1, .hnd 116 x.f2], fun l => match l with
    | [x0, x1, x2] => (deB x0).bind fun a0 => (deH 76 x1).bind fun a1 => (deH 116 x2).bind fun a2 => some ⟨a0, a1, a2⟩
    | _ => none⟩
  | 116 => ⟨4, (⟨0, 0, false, false⟩ : S76), fun x => [.v (.int .i64 x.f0), .v (.int .i64 x.f1), .v (.bool x.f2), .v (.bool x.f3)], fun l => match l with
    | [x0, x1, x2, x3] => (deI .i64 x0).bind fun a0 => (deI .i64 x1).bind fun a1 => (deB x2).bind fun a2 => (deB x3).bind fun a3 => some ⟨a0, a1, a2, a3⟩
    | _ => none⟩
  | 147 => ⟨4, (⟨0, 0, false, false⟩ : S76), fun x => [.v (.int .i64 x.f0), .v (.int .i64 x.f1), .v (.bool x.f2), .v (.bool x.f3)], fun l => match l with
    | [x0, x1, x2, x3] => (deI .i64 x0).bind fun a0 => (deI .i64 x1).bind fun a1 => (deB x2).bind fun a2 => (deB x3).bind fun a3 => some ⟨a0, a1, a2, a3⟩
    | _ => none⟩
  | t => ⟨0, defT t, fun _ => [], fun _ => none⟩
def rd3 (xs : List Int) (i : Int) : Int := xs.getD i.toNat 0
theorem rd3_at {xs : List Int} {i : Nat} (h : i < xs.length) : rd3 xs (i : Int) = xs[i] := by simp [rd3, h]
def rd4 (xs : List Bool) (i : Int) : Bool := xs.getD i.toNat false
theorem rd4_at {xs : List Bool} {i : Nat} (h : i < xs.length) : rd4 xs (i : Int) = xs[i] := by simp [rd4, h]
def rd5 (xs : List Int) (i : Int) : Int := xs.getD i.toNat 0
theorem rd5_at {xs : List Int} {i : Nat} (h : i < xs.length) : rd5 xs (i : Int) = xs[i] := by simp [rd5, h]
def rd9 (xs : List ByteArray) (i : Int) : ByteArray := xs.getD i.toNat ByteArray.empty
theorem rd9_at {xs : List ByteArray} {i : Nat} (h : i < xs.length) : rd9 xs (i : Int) = xs[i] := by simp [rd9, h]
def rd28 (xs : List S28) (i : Int) : S28 := xs.getD i.toNat ⟨0, 0, 0⟩
theorem rd28_at {xs : List S28} {i : Nat} (h : i < xs.length) : rd28 xs (i : Int) = xs[i] := by simp [rd28, h]
def rd39 (xs : List S28) (i : Int) : S28 := xs.getD i.toNat ⟨0, 0, 0⟩
theorem rd39_at {xs : List S28} {i : Nat} (h : i < xs.length) : rd39 xs (i : Int) = xs[i] := by simp [rd39, h]
def rd45 (xs : List S45) (i : Int) : S45 := xs.getD i.toNat ⟨0⟩
theorem rd45_at {xs : List S45} {i : Nat} (h : i < xs.length) : rd45 xs (i : Int) = xs[i] := by simp [rd45, h]
def rd50 (xs : List S45) (i : Int) : S45 := xs.getD i.toNat ⟨0⟩
theorem rd50_at {xs : List S45} {i : Nat} (h : i < xs.length) : rd50 xs (i : Int) = xs[i] := by simp [rd50, h]
def rd60 (xs : List S60) (i : Int) : S60 := xs.getD i.toNat ⟨0, 0, 0, false⟩
theorem rd60_at {xs : List S60} {i : Nat} (h : i < xs.length) : rd60 xs (i : Int) = xs[i] := by simp [rd60, h]
def rd74 (xs : List S74) (i : Int) : S74 := xs.getD i.toNat ⟨false, 0, 0, 0⟩
theorem rd74_at {xs : List S74} {i : Nat} (h : i < xs.length) : rd74 xs (i : Int) = xs[i] := by simp [rd74, h]
def rd76 (xs : List S76) (i : Int) : S76 := xs.getD i.toNat ⟨0, 0, false, false⟩
theorem rd76_at {xs : List S76} {i : Nat} (h : i < xs.length) : rd76 xs (i : Int) = xs[i] := by simp [rd76, h]
def rd86 (xs : List S86) (i : Int) : S86 := xs.getD i.toNat ⟨0, 0⟩
theorem rd86_at {xs : List S86} {i : Nat} (h : i < xs.length) : rd86 xs (i : Int) = xs[i] := by simp [rd86, h]
def rd89 (xs : List S89) (i : Int) : S89 := xs.getD i.toNat ⟨0, 0, 0, 0, 0, 0⟩
theorem rd89_at {xs : List S89} {i : Nat} (h : i < xs.length) : rd89 xs (i : Int) = xs[i] := by simp [rd89, h]
def rd94 (xs : List S94) (i : Int) : S94 := xs.getD i.toNat ⟨[], 0⟩
theorem rd94_at {xs : List S94} {i : Nat} (h : i < xs.length) : rd94 xs (i : Int) = xs[i] := by simp [rd94, h]
def rd97 (xs : List S60) (i : Int) : S60 := xs.getD i.toNat ⟨0, 0, 0, false⟩
theorem rd97_at {xs : List S60} {i : Nat} (h : i < xs.length) : rd97 xs (i : Int) = xs[i] := by simp [rd97, h]
def rd101 (xs : List S74) (i : Int) : S74 := xs.getD i.toNat ⟨false, 0, 0, 0⟩
theorem rd101_at {xs : List S74} {i : Nat} (h : i < xs.length) : rd101 xs (i : Int) = xs[i] := by simp [rd101, h]
def rd114 (xs : List S114) (i : Int) : S114 := xs.getD i.toNat ⟨false, 0, 0⟩
theorem rd114_at {xs : List S114} {i : Nat} (h : i < xs.length) : rd114 xs (i : Int) = xs[i] := by simp [rd114, h]
def rd116 (xs : List S76) (i : Int) : S76 := xs.getD i.toNat ⟨0, 0, false, false⟩
theorem rd116_at {xs : List S76} {i : Nat} (h : i < xs.length) : rd116 xs (i : Int) = xs[i] := by simp [rd116, h]
def rd147 (xs : List S76) (i : Int) : S76 := xs.getD i.toNat ⟨0, 0, false, false⟩
theorem rd147_at {xs : List S76} {i : Nat} (h : i < xs.length) : rd147 xs (i : Int) = xs[i] := by simp [rd147, h]
def u8T (t : Nat) : Option (TT t → Int) := match t with
  | 5 => some fun x => x
  | _ => none
def UU (E : Bool) : Univ TT := ⟨fun t => (ent t).sz, fun t => (ent t).dflt, fun t x => (ent t).enc x, fun t l => (ent t).dec l, u8T, none, false, E⟩
theorem bind_eq {A B : Type} {o : Option A} {f : A → Option B} {b : B} (h : o.bind f = some b) : ∃ a, o = some a ∧ f a = some b := by
  cases o with
  | none => cases h
  | some a => exact ⟨a, rfl, h⟩
theorem dk3 (E : Bool) (cs : List (SV TT)) (e : TT 3) (h : (UU E).dec 3 cs = some e) : CellsTo (UU E) cs ((UU E).enc 3 e) := by
  match cs, h with
  | [x0], h =>
    obtain ⟨a0, h0, h⟩ := bind_eq h
    cases h
    exact ⟨cell_to (deI_eq h0), trivial⟩
theorem dk4 (E : Bool) (cs : List (SV TT)) (e : TT 4) (h : (UU E).dec 4 cs = some e) : CellsTo (UU E) cs ((UU E).enc 4 e) := by
  match cs, h with
  | [x0], h =>
    obtain ⟨a0, h0, h⟩ := bind_eq h
    cases h
    exact ⟨cell_to (deB_eq h0), trivial⟩
theorem dk5 (E : Bool) (cs : List (SV TT)) (e : TT 5) (h : (UU E).dec 5 cs = some e) : CellsTo (UU E) cs ((UU E).enc 5 e) := by
  match cs, h with
  | [x0], h =>
    obtain ⟨a0, h0, h⟩ := bind_eq h
    cases h
    exact ⟨cell_to (deI_eq h0), trivial⟩
theorem dk9 (E : Bool) (cs : List (SV TT)) (e : TT 9) (h : (UU E).dec 9 cs = some e) : CellsTo (UU E) cs ((UU E).enc 9 e) := by
  match cs, h with
  | [x0], h =>
    obtain ⟨a0, h0, h⟩ := bind_eq h
    cases h
    exact ⟨cell_to (deS_eq h0), trivial⟩
theorem dk28 (E : Bool) (cs : List (SV TT)) (e : TT 28) (h : (UU E).dec 28 cs = some e) : CellsTo (UU E) cs ((UU E).enc 28 e) := by
  match cs, h with
  | [x0, x1, x2], h =>
    obtain ⟨a0, h0, h⟩ := bind_eq h
    obtain ⟨a1, h1, h⟩ := bind_eq h
    obtain ⟨a2, h2, h⟩ := bind_eq h
    cases h
    exact ⟨cell_to (deI_eq h0), deH_to h1, deH_to h2, trivial⟩
theorem dk39 (E : Bool) (cs : List (SV TT)) (e : TT 39) (h : (UU E).dec 39 cs = some e) : CellsTo (UU E) cs ((UU E).enc 39 e) := by
  match cs, h with
  | [x0, x1, x2], h =>
    obtain ⟨a0, h0, h⟩ := bind_eq h
    obtain ⟨a1, h1, h⟩ := bind_eq h
    obtain ⟨a2, h2, h⟩ := bind_eq h
    cases h
    exact ⟨cell_to (deI_eq h0), deH_to h1, deH_to h2, trivial⟩
theorem dk45 (E : Bool) (cs : List (SV TT)) (e : TT 45) (h : (UU E).dec 45 cs = some e) : CellsTo (UU E) cs ((UU E).enc 45 e) := by
  match cs, h with
  | [x0], h =>
    obtain ⟨a0, h0, h⟩ := bind_eq h
    cases h
    exact ⟨deH_to h0, trivial⟩
theorem dk50 (E : Bool) (cs : List (SV TT)) (e : TT 50) (h : (UU E).dec 50 cs = some e) : CellsTo (UU E) cs ((UU E).enc 50 e) := by
  match cs, h with
  | [x0], h =>
    obtain ⟨a0, h0, h⟩ := bind_eq h
    cases h
    exact ⟨deH_to h0, trivial⟩
theorem dk60 (E : Bool) (cs : List (SV TT)) (e : TT 60) (h : (UU E).dec 60 cs = some e) : CellsTo (UU E) cs ((UU E).enc 60 e) := by
  match cs, h with
  | [x0, x1, x2, x3], h =>
    obtain ⟨a0, h0, h⟩ := bind_eq h
    obtain ⟨a1, h1, h⟩ := bind_eq h
    obtain ⟨a2, h2, h⟩ := bind_eq h
    obtain ⟨a3, h3, h⟩ := bind_eq h
    cases h
    exact ⟨cell_to (deI_eq h0), cell_to (deI_eq h1), cell_to (deI_eq h2), cell_to (deB_eq h3), trivial⟩
theorem dk74 (E : Bool) (cs : List (SV TT)) (e : TT 74) (h : (UU E).dec 74 cs = some e) : CellsTo (UU E) cs ((UU E).enc 74 e) := by
  match cs, h with
  | [x0, x1, x2, x3], h =>
    obtain ⟨a0, h0, h⟩ := bind_eq h
    obtain ⟨a1, h1, h⟩ := bind_eq h
    obtain ⟨a2, h2, h⟩ := bind_eq h
    obtain ⟨a3, h3, h⟩ := bind_eq h
    cases h
    exact ⟨cell_to (deB_eq h0), deH_to h1, deH_to h2, deH_to h3, trivial⟩
theorem dk76 (E : Bool) (cs : List (SV TT)) (e : TT 76) (h : (UU E).dec 76 cs = some e) : CellsTo (UU E) cs ((UU E).enc 76 e) := by
  match cs, h with
  | [x0, x1, x2, x3], h =>
    obtain ⟨a0, h0, h⟩ := bind_eq h
    obtain ⟨a1, h1, h⟩ := bind_eq h
    obtain ⟨a2, h2, h⟩ := bind_eq h
    obtain ⟨a3, h3, h⟩ := bind_eq h
    cases h
    exact ⟨cell_to (deI_eq h0), cell_to (deI_eq h1), cell_to (deB_eq h2), cell_to (deB_eq h3), trivial⟩
theorem dk86 (E : Bool) (cs : List (SV TT)) (e : TT 86) (h : (UU E).dec 86 cs = some e) : CellsTo (UU E) cs ((UU E).enc 86 e) := by
  match cs, h with
  | [x0, x1], h =>
    obtain ⟨a0, h0, h⟩ := bind_eq h
    obtain ⟨a1, h1, h⟩ := bind_eq h
    cases h
    exact ⟨deH_to h0, deH_to h1, trivial⟩
theorem dk89 (E : Bool) (cs : List (SV TT)) (e : TT 89) (h : (UU E).dec 89 cs = some e) : CellsTo (UU E) cs ((UU E).enc 89 e) := by
  match cs, h with
  | [x0, x1, x2, x3, x4, x5], h =>
    obtain ⟨a0, h0, h⟩ := bind_eq h
    obtain ⟨a1, h1, h⟩ := bind_eq h
    obtain ⟨a2, h2, h⟩ := bind_eq h
    obtain ⟨a3, h3, h⟩ := bind_eq h
    obtain ⟨a4, h4, h⟩ := bind_eq h
    obtain ⟨a5, h5, h⟩ := bind_eq h
    cases h
    exact ⟨deH_to h0, deH_to h1, deH_to h2, deH_to h3, deH_to h4, cell_to (deI_eq h5), trivial⟩
theorem dk94 (E : Bool) (cs : List (SV TT)) (e : TT 94) (h : (UU E).dec 94 cs = some e) : CellsTo (UU E) cs ((UU E).enc 94 e) := by
  match cs, h with
  | [x0, x1], h =>
    obtain ⟨a0, h0, h⟩ := bind_eq h
    obtain ⟨a1, h1, h⟩ := bind_eq h
    cases h
    exact ⟨rowOf_to h0, cell_to (deI_eq h1), trivial⟩
theorem dk97 (E : Bool) (cs : List (SV TT)) (e : TT 97) (h : (UU E).dec 97 cs = some e) : CellsTo (UU E) cs ((UU E).enc 97 e) := by
  match cs, h with
  | [x0, x1, x2, x3], h =>
    obtain ⟨a0, h0, h⟩ := bind_eq h
    obtain ⟨a1, h1, h⟩ := bind_eq h
    obtain ⟨a2, h2, h⟩ := bind_eq h
    obtain ⟨a3, h3, h⟩ := bind_eq h
    cases h
    exact ⟨cell_to (deI_eq h0), cell_to (deI_eq h1), cell_to (deI_eq h2), cell_to (deB_eq h3), trivial⟩
theorem dk101 (E : Bool) (cs : List (SV TT)) (e : TT 101) (h : (UU E).dec 101 cs = some e) : CellsTo (UU E) cs ((UU E).enc 101 e) := by
  match cs, h with
  | [x0, x1, x2, x3], h =>
    obtain ⟨a0, h0, h⟩ := bind_eq h
    obtain ⟨a1, h1, h⟩ := bind_eq h
    obtain ⟨a2, h2, h⟩ := bind_eq h
    obtain ⟨a3, h3, h⟩ := bind_eq h
    cases h
    exact ⟨cell_to (deB_eq h0), deH_to h1, deH_to h2, deH_to h3, trivial⟩
theorem dk114 (E : Bool) (cs : List (SV TT)) (e : TT 114) (h : (UU E).dec 114 cs = some e) : CellsTo (UU E) cs ((UU E).enc 114 e) := by
  match cs, h with
  | [x0, x1, x2], h =>
    obtain ⟨a0, h0, h⟩ := bind_eq h
    obtain ⟨a1, h1, h⟩ := bind_eq h
    obtain ⟨a2, h2, h⟩ := bind_eq h
    cases h
    exact ⟨cell_to (deB_eq h0), deH_to h1, deH_to h2, trivial⟩
theorem dk116 (E : Bool) (cs : List (SV TT)) (e : TT 116) (h : (UU E).dec 116 cs = some e) : CellsTo (UU E) cs ((UU E).enc 116 e) := by
  match cs, h with
  | [x0, x1, x2, x3], h =>
    obtain ⟨a0, h0, h⟩ := bind_eq h
    obtain ⟨a1, h1, h⟩ := bind_eq h
    obtain ⟨a2, h2, h⟩ := bind_eq h
    obtain ⟨a3, h3, h⟩ := bind_eq h
    cases h
    exact ⟨cell_to (deI_eq h0), cell_to (deI_eq h1), cell_to (deB_eq h2), cell_to (deB_eq h3), trivial⟩
theorem dk147 (E : Bool) (cs : List (SV TT)) (e : TT 147) (h : (UU E).dec 147 cs = some e) : CellsTo (UU E) cs ((UU E).enc 147 e) := by
  match cs, h with
  | [x0, x1, x2, x3], h =>
    obtain ⟨a0, h0, h⟩ := bind_eq h
    obtain ⟨a1, h1, h⟩ := bind_eq h
    obtain ⟨a2, h2, h⟩ := bind_eq h
    obtain ⟨a3, h3, h⟩ := bind_eq h
    cases h
    exact ⟨cell_to (deI_eq h0), cell_to (deI_eq h1), cell_to (deB_eq h2), cell_to (deB_eq h3), trivial⟩
theorem uu (E : Bool) : UOk (UU E) where
  len := fun t x => by
    revert x; show ∀ x : TT t, ((ent t).enc x).length = (ent t).sz; unfold ent TT; split <;> intro x <;> rfl
  nr := fun t x => by
    revert x; show ∀ x : TT t, ((ent t).enc x).all nr1 = true; unfold ent TT; split <;> intro x <;> rfl
  dcs := fun t cs => by
    show ∀ e : TT t, (ent t).dec cs = some e → CellsTo (UU E) cs ((ent t).enc e)
    unfold ent TT
    split
    · exact dk3 E cs
    · exact dk4 E cs
    · exact dk5 E cs
    · exact dk9 E cs
    · exact dk28 E cs
    · exact dk39 E cs
    · exact dk45 E cs
    · exact dk50 E cs
    · exact dk60 E cs
    · exact dk74 E cs
    · exact dk76 E cs
    · exact dk86 E cs
    · exact dk89 E cs
    · exact dk94 E cs
    · exact dk97 E cs
    · exact dk101 E cs
    · exact dk114 E cs
    · exact dk116 E cs
    · exact dk147 E cs
    · intro e h; cases h
  u8 := fun t => by
    show ∀ f, u8T t = some f → ∀ x : TT t, (ent t).enc x = [.v (.int .u8 (f x))]
    unfold u8T
    split
    · intro f h x; cases h; rfl
    · intro f h; cases h
open Go.Proofs
theorem mixed : Try.prog.follows .mixedOrders = true := by kernel_rfl
end Go.Sx
