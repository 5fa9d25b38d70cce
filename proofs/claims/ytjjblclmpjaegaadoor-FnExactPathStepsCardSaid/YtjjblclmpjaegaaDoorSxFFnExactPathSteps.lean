/- What the functions that FnExactPathSteps reaches compute, and that they do. No condition. -/
import Derived.Test.YtjjblclmpjaegaaDoorSxU
import Derived.Test.YtjjblclmpjaegaaDoorSxX13
import Derived.Test.YtjjblclmpjaegaaDoorSxX14
import Derived.Test.YtjjblclmpjaegaaDoorSxX17
set_option linter.unusedVariables false
set_option linter.unusedSimpArgs false
namespace Go.Sx
open Go.RowKit Go.Proofs
noncomputable def F23 : Fn TT (Bool) := ⟨Tryd.prog, UU, tbl [], Tryd.f23.ntmps, Tryd.f23.results.toList, [4], true, 0, annOf [], finD (Dc.bool UU)⟩
noncomputable def start23 : Int × Int × Int → Option (Bool)
  | (x0, x1, x2) => (cond (decide ((x0 : Int) ≥ x1)) (some (decide ((x0 : Int) ≤ x2))) (some false))
noncomputable def f23 (k : Nat) : Int × Int × Int → Option (Bool) := start23
theorem en23 (G : List Item → St TT → Option (Bool)) (a : Int × Int × Int) : ev (F23) G 3000 [.code (bodyOf Tryd.f23)] (st0 ((Dl.cons (Dc.int UU .i64) (Dl.cons (Dc.int UU .i64) (Dl.one (Dc.int UU .i64)))).en a)) = start23 a := by
  obtain ⟨x0, x1, x2⟩ := a
  kernel_rfl
theorem snd23 (k : Nat) : Snd Tryd.prog UU 23 (W (Dl.cons (Dc.int UU .i64) (Dl.cons (Dc.int UU .i64) (Dl.one (Dc.int UU .i64)))) (f23 k) (Dc.bool UU)) := by
  refine snd_fn (F := F23) (fn := Tryd.f23) (body := bodyOf Tryd.f23) ⟨uu, tbl_ok trivial, mixed⟩ rfl rfl (by kernel_rfl) (by kernel_rfl) (by kernel_rfl) rfl rfl rfl (fun a => Nat.le_of_ble_eq_true rfl) ?_
  intro a r h
  refine ⟨3000, k, ?_⟩
  rw [en23]
  exact h
noncomputable def F12 (g23 : Int × Int × Int → Option (Bool)) : Fn TT (Bool) := ⟨Tryd.prog, UU, tbl [(23, .plain (W (Dl.cons (Dc.int UU .i64) (Dl.cons (Dc.int UU .i64) (Dl.one (Dc.int UU .i64)))) g23 (Dc.bool UU)))], Tryd.f12.ntmps, Tryd.f12.results.toList, [4], true, 0, annOf [(2, [0, 3]), (3, [0, 3])], finD (Dc.bool UU)⟩
inductive J12 where
  | j2 (x0 : ByteArray) (x1 : Int)
  | j3 (x0 : ByteArray) (x1 : Int)
noncomputable def td12 : J12 → List Item
  | .j2 _ _ => fnd 2 (bodyOf Tryd.f12) []
  | .j3 _ _ => fnd 3 (bodyOf Tryd.f12) []
noncomputable def em12 : J12 → St TT
  | .j2 x0 x1 => ⟨[(0, .v (.string x0)), (3, .v (.int .i64 x1))], [], 0⟩
  | .j3 x0 x1 => ⟨[(0, .v (.string x0)), (3, .v (.int .i64 x1))], [], 0⟩
noncomputable def step12 (g23 : Int × Int × Int → Option (Bool)) (go : J12 → Option (Bool)) : J12 → Option (Bool)
  | .j2 x0 x1 => (cond (decide ((x1 : Int) < (((x0).size : Nat) : Int))) (cond (decide ((0 : Int) ≤ x1)) (cond (decide ((x1 : Int) < (((x0).size : Nat) : Int))) (cond (decide (((bt x0 x1) : Int) < 97)) (some false) (cond (decide ((0 : Int) ≤ x1)) (cond (decide ((x1 : Int) < (((x0).size : Nat) : Int))) (cond (decide (((bt x0 x1) : Int) > 122)) (some false) (go (.j3 x0 x1))) none) none)) none) none) (((g23 ((((x0).size : Nat) : Int), (1, 3)))).bind fun r0 => (some r0)))
  | .j3 x0 x1 => (go (.j2 x0 (w64 (x1 + 1))))
noncomputable def start12 (g23 : Int × Int × Int → Option (Bool)) (go : J12 → Option (Bool)) : ByteArray → Option (Bool)
  | x0 => (go (.j2 x0 0))
noncomputable def f12 (k : Nat) : ByteArray → Option (Bool) := start12 (f23 k) (run (step12 (f23 k)) k)
theorem st12 (g23 : Int × Int × Int → Option (Bool)) (G : List Item → St TT → Option (Bool)) (p : J12) : evFrom (F12 g23) G 3000 (td12 p) (em12 p) = step12 g23 (fun q => G (td12 q) (em12 q)) p := by
  cases p <;> kernel_rfl
theorem en12 (g23 : Int × Int × Int → Option (Bool)) (G : List Item → St TT → Option (Bool)) (a : ByteArray) : ev (F12 g23) G 3000 [.code (bodyOf Tryd.f12)] (st0 ((Dl.one (Dc.str UU)).en a)) = start12 g23 (fun q => G (td12 q) (em12 q)) a := by
  kernel_rfl
theorem snd12 (k : Nat) : Snd Tryd.prog UU 12 (W (Dl.one (Dc.str UU)) (f12 k) (Dc.bool UU)) := by
  refine snd_fn (F := F12 (f23 k)) (fn := Tryd.f12) (body := bodyOf Tryd.f12) ⟨uu, tbl_ok ⟨snd23 k, trivial⟩, mixed⟩ rfl rfl (by kernel_rfl) (by kernel_rfl) (by kernel_rfl) rfl rfl rfl (fun a => Nat.le_of_ble_eq_true rfl) ?_
  intro a r h
  refine ⟨3000, k, ?_⟩
  rw [en12]
  rw [show (fun q => evJ (F12 (f23 k)) 3000 k (td12 q) (em12 q)) = run (step12 (f23 k)) k from funext fun q => evJ_run _ _ _ (st12 (f23 k)) k q]
  exact h
noncomputable def F5 (g12 : ByteArray → Option (Bool)) : Fn TT (Bool × (List ByteArray) × Bool × Unit) := ⟨Tryd.prog, UU, tbl [(12, .plain (W (Dl.one (Dc.str UU)) g12 (Dc.bool UU)))], Tryd.f5.ntmps, Tryd.f5.results.toList, [4, 22, 4], false, 0, annOf [(3, [0, 5, 6]), (5, [0, 5, 6]), (7, [0, 5, 6, 7, 8]), (9, [0, 5, 6, 7, 8]), (10, [0, 5, 6, 7, 8]), (13, [0, 5, 6, 8, 9]), (8, [0, 5, 6, 7, 8])], finK (Dk.val (Dc.bool UU) (Dk.own 9 (Dk.val (Dc.bool UU) (Dk.nil UU))))⟩
inductive J5 where
  | j3 (x0 : ByteArray) (x1 : Bool) (x2 : (List ByteArray))
  | j5 (x0 : ByteArray) (x1 : Bool) (x2 : (List ByteArray))
  | j7 (x0 : ByteArray) (x1 : Bool) (x2 : Int) (x3 : Int) (x4 : (List ByteArray))
  | j9 (x0 : ByteArray) (x1 : Bool) (x2 : Int) (x3 : Int) (x4 : (List ByteArray))
  | j8 (x0 : ByteArray) (x1 : Bool) (x2 : Int) (x3 : Int) (x4 : (List ByteArray))
  | j10 (x0 : ByteArray) (x1 : Bool) (x2 : Int) (x3 : Int) (x4 : (List ByteArray))
  | j13 (x0 : ByteArray) (x1 : Bool) (x2 : Int) (x3 : ByteArray) (x4 : (List ByteArray))
noncomputable def td5 : J5 → List Item
  | .j3 _ _ _ => fnd 3 (bodyOf Tryd.f5) []
  | .j5 _ _ _ => fnd 5 (bodyOf Tryd.f5) []
  | .j7 _ _ _ _ _ => fnd 7 (bodyOf Tryd.f5) []
  | .j9 _ _ _ _ _ => fnd 9 (bodyOf Tryd.f5) []
  | .j8 _ _ _ _ _ => fnd 8 (bodyOf Tryd.f5) []
  | .j10 _ _ _ _ _ => fnd 10 (bodyOf Tryd.f5) []
  | .j13 _ _ _ _ _ => fnd 13 (bodyOf Tryd.f5) []
noncomputable def em5 : J5 → St TT
  | .j3 x0 x1 x2 => ⟨[(0, .v (.string x0)), (5, .own 0), (6, .v (.bool x1))], [(0, .arr 9 x2)], 1⟩
  | .j5 x0 x1 x2 => ⟨[(0, .v (.string x0)), (5, .own 0), (6, .v (.bool x1))], [(0, .arr 9 x2)], 1⟩
  | .j7 x0 x1 x2 x3 x4 => ⟨[(0, .v (.string x0)), (5, .own 0), (6, .v (.bool x1)), (7, .v (.int .i64 x2)), (8, .v (.int .i64 x3))], [(0, .arr 9 x4)], 1⟩
  | .j9 x0 x1 x2 x3 x4 => ⟨[(0, .v (.string x0)), (5, .own 0), (6, .v (.bool x1)), (7, .v (.int .i64 x2)), (8, .v (.int .i64 x3))], [(0, .arr 9 x4)], 1⟩
  | .j8 x0 x1 x2 x3 x4 => ⟨[(0, .v (.string x0)), (5, .own 0), (6, .v (.bool x1)), (7, .v (.int .i64 x2)), (8, .v (.int .i64 x3))], [(0, .arr 9 x4)], 1⟩
  | .j10 x0 x1 x2 x3 x4 => ⟨[(0, .v (.string x0)), (5, .own 0), (6, .v (.bool x1)), (7, .v (.int .i64 x2)), (8, .v (.int .i64 x3))], [(0, .arr 9 x4)], 1⟩
  | .j13 x0 x1 x2 x3 x4 => ⟨[(0, .v (.string x0)), (5, .own 0), (6, .v (.bool x1)), (8, .v (.int .i64 x2)), (9, .v (.string x3))], [(0, .arr 9 x4)], 1⟩
noncomputable def step5 (g12 : ByteArray → Option (Bool)) (go : J5 → Option (Bool × (List ByteArray) × Bool × Unit)) : J5 → Option (Bool × (List ByteArray) × Bool × Unit)
  | .j3 x0 x1 x2 => (cond x1 (cond (decide ((1 : Int) ≤ (((x0).size : Nat) : Int))) (go (.j5 (ByteArray.extract x0 1 (x0).size) x1 x2)) none) (go (.j5 x0 x1 x2)))
  | .j5 x0 x1 x2 => (go (.j7 x0 x1 0 0 x2))
  | .j7 x0 x1 x2 x3 x4 => (cond (decide ((x3 : Int) ≤ (((x0).size : Nat) : Int))) (cond (!((x0).toList == ((⟨#[]⟩ : ByteArray)).toList)) (go (.j9 x0 x1 x2 x3 x4)) (some (x1, (x4, (true, ()))))) (some (x1, (x4, (true, ())))))
  | .j9 x0 x1 x2 x3 x4 => (cond (decide ((x3 : Int) < (((x0).size : Nat) : Int))) (cond (decide ((0 : Int) ≤ x3)) (cond (decide ((x3 : Int) < (((x0).size : Nat) : Int))) (cond (((bt x0 x3) : Int) != 47) (go (.j8 x0 x1 x2 x3 x4)) (go (.j10 x0 x1 x2 x3 x4))) none) none) (go (.j10 x0 x1 x2 x3 x4)))
  | .j8 x0 x1 x2 x3 x4 => (go (.j7 x0 x1 x2 (w64 (x3 + 1)) x4))
  | .j10 x0 x1 x2 x3 x4 => (cond (decide ((0 : Int) ≤ x3)) (cond (decide ((x3 : Int) ≤ (((x0).size : Nat) : Int))) (cond (decide ((0 : Int) ≤ x2)) (cond (decide ((x2 : Int) ≤ (((x3).toNat : Nat) : Int))) (cond (!(((ByteArray.extract x0 (x2).toNat (x3).toNat)).toList == ((⟨#[46, 46]⟩ : ByteArray)).toList)) (((g12 (ByteArray.extract x0 (x2).toNat (x3).toNat))).bind fun r0 => (cond (!r0) (some (false, (([] : List ByteArray), (false, ())))) (cond (decide (((((x4).length : Nat) : Int) : Int) ≥ 6)) (some (false, (([] : List ByteArray), (false, ())))) (go (.j13 x0 x1 x3 (ByteArray.extract x0 (x2).toNat (x3).toNat) x4))))) (cond (decide (((((x4).length : Nat) : Int) : Int) ≥ 6)) (some (false, (([] : List ByteArray), (false, ())))) (go (.j13 x0 x1 x3 (ByteArray.extract x0 (x2).toNat (x3).toNat) x4)))) none) none) none) none)
  | .j13 x0 x1 x2 x3 x4 => (cond (decide ((((x4).length + ([x3]).length) * 16) ≤ 140737488355328)) (go (.j8 x0 x1 (w64 (x2 + 1)) x2 (x4 ++ [x3]))) none)
noncomputable def start5 (g12 : ByteArray → Option (Bool)) (go : J5 → Option (Bool × (List ByteArray) × Bool × Unit)) : ByteArray → Option (Bool × (List ByteArray) × Bool × Unit)
  | x0 => (cond (decide (((((x0).size : Nat) : Int) : Int) > 0)) (cond (decide ((0 : Int) < (((x0).size : Nat) : Int))) (go (.j3 x0 (((bt x0 0) : Int) == 47) ([] : List ByteArray))) none) (go (.j3 x0 false ([] : List ByteArray))))
noncomputable def f5 (k : Nat) : ByteArray → Option (Bool × (List ByteArray) × Bool × Unit) := start5 (f12 k) (run (step5 (f12 k)) k)
theorem st5 (g12 : ByteArray → Option (Bool)) (G : List Item → St TT → Option (Bool × (List ByteArray) × Bool × Unit)) (p : J5) : evFrom (F5 g12) G 3000 (td5 p) (em5 p) = step5 g12 (fun q => G (td5 q) (em5 q)) p := by
  cases p <;> kernel_rfl
theorem en5 (g12 : ByteArray → Option (Bool)) (G : List Item → St TT → Option (Bool × (List ByteArray) × Bool × Unit)) (a : ByteArray) : ev (F5 g12) G 3000 [.code (bodyOf Tryd.f5)] (st0 ((Dl.one (Dc.str UU)).en a)) = start5 g12 (fun q => G (td5 q) (em5 q)) a := by
  kernel_rfl
theorem snd5 (k : Nat) : Snd Tryd.prog UU 5 (WK (Dl.one (Dc.str UU)) (f5 k) (Dk.val (Dc.bool UU) (Dk.own 9 (Dk.val (Dc.bool UU) (Dk.nil UU))))) := by
  refine sndK_fn (F := F5 (f12 k)) (fn := Tryd.f5) (body := bodyOf Tryd.f5) ⟨uu, tbl_ok ⟨snd12 k, trivial⟩, mixed⟩ rfl (by kernel_rfl) (by kernel_rfl) (by kernel_rfl) rfl rfl rfl (fun a => Nat.le_of_ble_eq_true rfl) ?_
  intro a r h
  refine ⟨3000, k, ?_⟩
  rw [en5]
  rw [show (fun q => evJ (F5 (f12 k)) 3000 k (td5 q) (em5 q)) = run (step5 (f12 k)) k from funext fun q => evJ_run _ _ _ (st5 (f12 k)) k q]
  exact h
noncomputable def F16 (g17 : ByteArray → Option (Bool)) : Fn TT (Bool) := ⟨Tryd.prog, UU, tbl [(17, .plain (W (Dl.one (Dc.str UU)) g17 (Dc.bool UU)))], Tryd.f16.ntmps, Tryd.f16.results.toList, [4], true, 0, annOf [], finD (Dc.bool UU)⟩
noncomputable def start16 (g17 : ByteArray → Option (Bool)) : ByteArray → Option (Bool)
  | x0 => (cond (!((x0).toList == ((⟨#[46, 46]⟩ : ByteArray)).toList)) (((g17 x0)).bind fun r0 => (some (!r0))) (some false))
noncomputable def f16 (k : Nat) : ByteArray → Option (Bool) := start16 (f17 k)
theorem en16 (g17 : ByteArray → Option (Bool)) (G : List Item → St TT → Option (Bool)) (a : ByteArray) : ev (F16 g17) G 3000 [.code (bodyOf Tryd.f16)] (st0 ((Dl.one (Dc.str UU)).en a)) = start16 g17 a := by
  kernel_rfl
theorem snd16 (k : Nat) : Snd Tryd.prog UU 16 (W (Dl.one (Dc.str UU)) (f16 k) (Dc.bool UU)) := by
  refine snd_fn (F := F16 (f17 k)) (fn := Tryd.f16) (body := bodyOf Tryd.f16) ⟨uu, tbl_ok ⟨snd17 k, trivial⟩, mixed⟩ rfl rfl (by kernel_rfl) (by kernel_rfl) (by kernel_rfl) rfl rfl rfl (fun a => Nat.le_of_ble_eq_true rfl) ?_
  intro a r h
  refine ⟨3000, k, ?_⟩
  rw [en16]
  exact h
noncomputable def F26 (g16 : ByteArray → Option (Bool)) : Fn TT (Int) := ⟨Tryd.prog, UU, tbl [(16, .plain (W (Dl.one (Dc.str UU)) g16 (Dc.bool UU)))], Tryd.f26.ntmps, Tryd.f26.results.toList, [3], true, 0, annOf [(2, [0, 1, 7, 8])], finD (Dc.int UU .i64)⟩
inductive J26 where
  | j2 (x0 : (List ByteArray)) (x1 : Int) (x2 : Int)
noncomputable def td26 : J26 → List Item
  | .j2 _ _ _ => fnd 2 (bodyOf Tryd.f26) []
noncomputable def em26 : J26 → St TT
  | .j2 x0 x1 x2 => ⟨[(0, .row 9 x0), (1, .v (.func (.func 16) #[] #[])), (7, .v (.int .i64 x1)), (8, .v (.int .i64 x2))], [], 0⟩
noncomputable def step26 (g16 : ByteArray → Option (Bool)) (go : J26 → Option (Int)) : J26 → Option (Int)
  | .j2 x0 x1 x2 => (cond (decide ((x2 : Int) < x1)) (cond (decide ((0 : Int) ≤ x2)) (cond (decide ((x2 : Int) < (((x0).length : Nat) : Int))) (((g16 (rd9 x0 x2))).bind fun r0 => (cond r0 (some x2) (go (.j2 x0 x1 (w64 (x2 + 1)))))) none) none) (some (-1)))
noncomputable def start26 (g16 : ByteArray → Option (Bool)) (go : J26 → Option (Int)) : (List ByteArray) × Unit → Option (Int)
  | (x0, x1) => (go (.j2 x0 (((x0).length : Nat) : Int) 0))
noncomputable def f26 (k : Nat) : (List ByteArray) × Unit → Option (Int) := start26 (f16 k) (run (step26 (f16 k)) k)
theorem st26 (g16 : ByteArray → Option (Bool)) (G : List Item → St TT → Option (Int)) (p : J26) : evFrom (F26 g16) G 3000 (td26 p) (em26 p) = step26 g16 (fun q => G (td26 q) (em26 q)) p := by
  cases p <;> kernel_rfl
theorem en26 (g16 : ByteArray → Option (Bool)) (G : List Item → St TT → Option (Int)) (a : (List ByteArray) × Unit) : ev (F26 g16) G 3000 [.code (bodyOf Tryd.f26)] (st0 ((Dl.cons (Dc.row UU 9) (Dl.one (Dc.fn UU 16))).en a)) = start26 g16 (fun q => G (td26 q) (em26 q)) a := by
  obtain ⟨x0, x1⟩ := a
  kernel_rfl
theorem snd26 (k : Nat) : Snd Tryd.prog UU 26 (W (Dl.cons (Dc.row UU 9) (Dl.one (Dc.fn UU 16))) (f26 k) (Dc.int UU .i64)) := by
  refine snd_fn (F := F26 (f16 k)) (fn := Tryd.f26) (body := bodyOf Tryd.f26) ⟨uu, tbl_ok ⟨snd16 k, trivial⟩, mixed⟩ rfl rfl (by kernel_rfl) (by kernel_rfl) (by kernel_rfl) rfl rfl rfl (fun a => Nat.le_of_ble_eq_true rfl) ?_
  intro a r h
  refine ⟨3000, k, ?_⟩
  rw [en26]
  rw [show (fun q => evJ (F26 (f16 k)) 3000 k (td26 q) (em26 q)) = run (step26 (f16 k)) k from funext fun q => evJ_run _ _ _ (st26 (f16 k)) k q]
  exact h
noncomputable def F15 (g16 : ByteArray → Option (Bool)) (g26 : (List ByteArray) × Unit → Option (Int)) : Fn TT (Bool) := ⟨Tryd.prog, UU, tbl [(16, .plain (W (Dl.one (Dc.str UU)) g16 (Dc.bool UU))), (26, .plain (W (Dl.cons (Dc.row UU 9) (Dl.one (Dc.fn UU 16))) g26 (Dc.int UU .i64)))], Tryd.f15.ntmps, Tryd.f15.results.toList, [4], true, 0, annOf [], finD (Dc.bool UU)⟩
noncomputable def start15 (g16 : ByteArray → Option (Bool)) (g26 : (List ByteArray) × Unit → Option (Int)) : (List ByteArray) × Unit → Option (Bool)
  | (x0, x1) => (((g26 (x0, ()))).bind fun r0 => (some (decide ((r0 : Int) ≥ 0))))
noncomputable def f15 (k : Nat) : (List ByteArray) × Unit → Option (Bool) := start15 (f16 k) (f26 k)
theorem en15 (g16 : ByteArray → Option (Bool)) (g26 : (List ByteArray) × Unit → Option (Int)) (G : List Item → St TT → Option (Bool)) (a : (List ByteArray) × Unit) : ev (F15 g16 g26) G 3000 [.code (bodyOf Tryd.f15)] (st0 ((Dl.cons (Dc.row UU 9) (Dl.one (Dc.fn UU 16))).en a)) = start15 g16 g26 a := by
  obtain ⟨x0, x1⟩ := a
  kernel_rfl
theorem snd15 (k : Nat) : Snd Tryd.prog UU 15 (W (Dl.cons (Dc.row UU 9) (Dl.one (Dc.fn UU 16))) (f15 k) (Dc.bool UU)) := by
  refine snd_fn (F := F15 (f16 k) (f26 k)) (fn := Tryd.f15) (body := bodyOf Tryd.f15) ⟨uu, tbl_ok ⟨snd16 k, snd26 k, trivial⟩, mixed⟩ rfl rfl (by kernel_rfl) (by kernel_rfl) (by kernel_rfl) rfl rfl rfl (fun a => Nat.le_of_ble_eq_true rfl) ?_
  intro a r h
  refine ⟨3000, k, ?_⟩
  rw [en15]
  exact h
noncomputable def F6 (g13 : ByteArray × ByteArray → Option (ByteArray × Bool)) (g14 : ByteArray × ByteArray → Option ((List ByteArray) × Unit)) (g15 : (List ByteArray) × Unit → Option (Bool)) (g16 : ByteArray → Option (Bool)) : Fn TT (Bool × (List ByteArray) × Bool × Unit) := ⟨Tryd.prog, UU, tbl [(13, .plain (W (Dl.cons (Dc.str UU) (Dl.one (Dc.str UU))) g13 (Dc.tup (Dl.cons (Dc.str UU) (Dl.one (Dc.bool UU)))))), (14, .plain (WK (Dl.cons (Dc.str UU) (Dl.one (Dc.str UU))) g14 (Dk.own 9 (Dk.nil UU)))), (15, .plain (W (Dl.cons (Dc.row UU 9) (Dl.one (Dc.fn UU 16))) g15 (Dc.bool UU))), (16, .plain (W (Dl.one (Dc.str UU)) g16 (Dc.bool UU)))], Tryd.f6.ntmps, Tryd.f6.results.toList, [4, 22, 4], false, 0, annOf [], finK (Dk.val (Dc.bool UU) (Dk.own 9 (Dk.val (Dc.bool UU) (Dk.nil UU))))⟩
noncomputable def start6 (g13 : ByteArray × ByteArray → Option (ByteArray × Bool)) (g14 : ByteArray × ByteArray → Option ((List ByteArray) × Unit)) (g15 : (List ByteArray) × Unit → Option (Bool)) (g16 : ByteArray → Option (Bool)) : ByteArray → Option (Bool × (List ByteArray) × Bool × Unit)
  | x0 => (((g13 (x0, (⟨#[47]⟩ : ByteArray)))).bind fun r0 => (cond (((r0).fst).toList == ((⟨#[]⟩ : ByteArray)).toList) (some ((r0).snd, (([] : List ByteArray), (true, ())))) (((g14 ((r0).fst, (⟨#[47]⟩ : ByteArray)))).bind fun r1 => (cond (decide ((((((r1).fst).length : Nat) : Int) : Int) > 6)) (some (false, (([] : List ByteArray), (false, ())))) (((g15 ((r1).fst, ()))).bind fun r2 => (cond r2 (some (false, (([] : List ByteArray), (false, ())))) (some ((r0).snd, ((r1).fst, (true, ()))))))))))
noncomputable def f6 (k : Nat) : ByteArray → Option (Bool × (List ByteArray) × Bool × Unit) := start6 (f13 k) (f14 k) (f15 k) (f16 k)
theorem en6 (g13 : ByteArray × ByteArray → Option (ByteArray × Bool)) (g14 : ByteArray × ByteArray → Option ((List ByteArray) × Unit)) (g15 : (List ByteArray) × Unit → Option (Bool)) (g16 : ByteArray → Option (Bool)) (G : List Item → St TT → Option (Bool × (List ByteArray) × Bool × Unit)) (a : ByteArray) : ev (F6 g13 g14 g15 g16) G 3000 [.code (bodyOf Tryd.f6)] (st0 ((Dl.one (Dc.str UU)).en a)) = start6 g13 g14 g15 g16 a := by
  kernel_rfl
theorem snd6 (k : Nat) : Snd Tryd.prog UU 6 (WK (Dl.one (Dc.str UU)) (f6 k) (Dk.val (Dc.bool UU) (Dk.own 9 (Dk.val (Dc.bool UU) (Dk.nil UU))))) := by
  refine sndK_fn (F := F6 (f13 k) (f14 k) (f15 k) (f16 k)) (fn := Tryd.f6) (body := bodyOf Tryd.f6) ⟨uu, tbl_ok ⟨snd13 k, snd14 k, snd15 k, snd16 k, trivial⟩, mixed⟩ rfl (by kernel_rfl) (by kernel_rfl) (by kernel_rfl) rfl rfl rfl (fun a => Nat.le_of_ble_eq_true rfl) ?_
  intro a r h
  refine ⟨3000, k, ?_⟩
  rw [en6]
  exact h
noncomputable def F7 : Fn TT (Bool) := ⟨Tryd.prog, UU, tbl [], Tryd.f7.ntmps, Tryd.f7.results.toList, [4], true, 0, annOf [(4, [0, 1, 5])], finD (Dc.bool UU)⟩
inductive J7 where
  | j4 (x0 : (List ByteArray)) (x1 : (List ByteArray)) (x2 : Int)
noncomputable def td7 : J7 → List Item
  | .j4 _ _ _ => fnd 4 (bodyOf Tryd.f7) []
noncomputable def em7 : J7 → St TT
  | .j4 x0 x1 x2 => ⟨[(0, .row 9 x0), (1, .row 9 x1), (5, .v (.int .i64 x2))], [], 0⟩
noncomputable def step7 (go : J7 → Option (Bool)) : J7 → Option (Bool)
  | .j4 x0 x1 x2 => (cond (decide ((x2 : Int) < (((x0).length : Nat) : Int))) (cond (decide ((0 : Int) ≤ x2)) (cond (decide ((x2 : Int) < (((x0).length : Nat) : Int))) (cond (decide ((0 : Int) ≤ x2)) (cond (decide ((x2 : Int) < (((x1).length : Nat) : Int))) (cond (!(((rd9 x0 x2)).toList == ((rd9 x1 x2)).toList)) (some false) (go (.j4 x0 x1 (w64 (x2 + 1))))) none) none) none) none) (some true))
noncomputable def start7 (go : J7 → Option (Bool)) : (List ByteArray) × (List ByteArray) → Option (Bool)
  | (x0, x1) => (cond (((((x0).length : Nat) : Int) : Int) != (((x1).length : Nat) : Int)) (some false) (go (.j4 x0 x1 0)))
noncomputable def f7 (k : Nat) : (List ByteArray) × (List ByteArray) → Option (Bool) := start7 (run (step7) k)
theorem st7 (G : List Item → St TT → Option (Bool)) (p : J7) : evFrom (F7) G 3000 (td7 p) (em7 p) = step7 (fun q => G (td7 q) (em7 q)) p := by
  cases p <;> kernel_rfl
theorem en7 (G : List Item → St TT → Option (Bool)) (a : (List ByteArray) × (List ByteArray)) : ev (F7) G 3000 [.code (bodyOf Tryd.f7)] (st0 ((Dl.cons (Dc.row UU 9) (Dl.one (Dc.row UU 9))).en a)) = start7 (fun q => G (td7 q) (em7 q)) a := by
  obtain ⟨x0, x1⟩ := a
  kernel_rfl
theorem snd7 (k : Nat) : Snd Tryd.prog UU 7 (W (Dl.cons (Dc.row UU 9) (Dl.one (Dc.row UU 9))) (f7 k) (Dc.bool UU)) := by
  refine snd_fn (F := F7) (fn := Tryd.f7) (body := bodyOf Tryd.f7) ⟨uu, tbl_ok trivial, mixed⟩ rfl rfl (by kernel_rfl) (by kernel_rfl) (by kernel_rfl) rfl rfl rfl (fun a => Nat.le_of_ble_eq_true rfl) ?_
  intro a r h
  refine ⟨3000, k, ?_⟩
  rw [en7]
  rw [show (fun q => evJ (F7) 3000 k (td7 q) (em7 q)) = run (step7) k from funext fun q => evJ_run _ _ _ (st7) k q]
  exact h
noncomputable def F18 : Fn TT (ByteArray) := ⟨Tryd.prog, UU, tbl [], Tryd.f18.ntmps, Tryd.f18.results.toList, [9], true, 0, annOf [(4, [0, 3])], finD (Dc.str UU)⟩
inductive J18 where
  | j4 (x0 : Int) (x1 : ByteArray)
noncomputable def td18 : J18 → List Item
  | .j4 _ _ => fnd 4 (bodyOf Tryd.f18) []
noncomputable def em18 : J18 → St TT
  | .j4 x0 x1 => ⟨[(0, .v (.int .i64 x0)), (3, .v (.string x1))], [], 0⟩
noncomputable def step18 (go : J18 → Option (ByteArray)) : J18 → Option (ByteArray)
  | .j4 x0 x1 => (cond (decide ((x0 : Int) > 0)) (cond (decide ((((Go.strOfNums (List.map (fun x => x) [(IntKind.wrap .u8 (w64 (48 + (Int.tmod x0 10))))]))).size + (x1).size) ≤ 9223372036854775807)) (go (.j4 (w64 (Int.tdiv x0 10)) ((Go.strOfNums (List.map (fun x => x) [(IntKind.wrap .u8 (w64 (48 + (Int.tmod x0 10))))])) ++ x1))) none) (cond (decide ((((⟨#[109]⟩ : ByteArray)).size + (x1).size) ≤ 9223372036854775807)) (some ((⟨#[109]⟩ : ByteArray) ++ x1)) none))
noncomputable def start18 (go : J18 → Option (ByteArray)) : Int → Option (ByteArray)
  | x0 => (cond (decide ((x0 : Int) ≤ 0)) (some (⟨#[109, 48]⟩ : ByteArray)) (go (.j4 x0 (⟨#[]⟩ : ByteArray))))
noncomputable def f18 (k : Nat) : Int → Option (ByteArray) := start18 (run (step18) k)
theorem st18 (G : List Item → St TT → Option (ByteArray)) (p : J18) : evFrom (F18) G 3000 (td18 p) (em18 p) = step18 (fun q => G (td18 q) (em18 q)) p := by
  cases p <;> kernel_rfl
theorem en18 (G : List Item → St TT → Option (ByteArray)) (a : Int) : ev (F18) G 3000 [.code (bodyOf Tryd.f18)] (st0 ((Dl.one (Dc.int UU .i64)).en a)) = start18 (fun q => G (td18 q) (em18 q)) a := by
  kernel_rfl
theorem snd18 (k : Nat) : Snd Tryd.prog UU 18 (W (Dl.one (Dc.int UU .i64)) (f18 k) (Dc.str UU)) := by
  refine snd_fn (F := F18) (fn := Tryd.f18) (body := bodyOf Tryd.f18) ⟨uu, tbl_ok trivial, mixed⟩ rfl rfl (by kernel_rfl) (by kernel_rfl) (by kernel_rfl) rfl rfl rfl (fun a => Nat.le_of_ble_eq_true rfl) ?_
  intro a r h
  refine ⟨3000, k, ?_⟩
  rw [en18]
  rw [show (fun q => evJ (F18) 3000 k (td18 q) (em18 q)) = run (step18) k from funext fun q => evJ_run _ _ _ (st18) k q]
  exact h
noncomputable def F8 (g18 : Int → Option (ByteArray)) : Fn TT ((Int) × (List ByteArray)) := ⟨Tryd.prog, UU, tbl [(18, .plain (W (Dl.one (Dc.int UU .i64)) g18 (Dc.str UU)))], Tryd.f8.ntmps, Tryd.f8.results.toList, [3], true, 1, annOf [(2, [0, 1, 5])], finL (Dc.int UU .i64) (Db.arr UU 9)⟩
inductive J8 where
  | j2 (x0 : Int) (x1 : Int) (x2 : (List ByteArray))
noncomputable def td8 : J8 → List Item
  | .j2 _ _ _ => fnd 2 (bodyOf Tryd.f8) []
noncomputable def em8 : J8 → St TT
  | .j2 x0 x1 x2 => ⟨[(0, .own 0), (1, .v (.int .i64 x0)), (5, .v (.int .i64 x1))], [(0, .arr 9 x2)], 1⟩
noncomputable def step8 (g18 : Int → Option (ByteArray)) (go : J8 → Option ((Int) × (List ByteArray))) : J8 → Option ((Int) × (List ByteArray))
  | .j2 x0 x1 x2 => (cond (decide ((x1 : Int) < (((x2).length : Nat) : Int))) (((g18 x0)).bind fun r0 => (cond (decide ((0 : Int) ≤ x1)) (cond (decide ((x1 : Int) < (((x2).length : Nat) : Int))) (cond (decide ((0 : Int) ≤ x1)) (cond (decide ((x1 : Int) < (((x2).length : Nat) : Int))) (go (.j2 (w64 (x0 + 1)) (w64 (x1 + 1)) (List.set x2 (x1).toNat r0))) none) none) none) none)) (some (x0, x2)))
noncomputable def start8 (g18 : Int → Option (ByteArray)) (go : J8 → Option ((Int) × (List ByteArray))) : (List ByteArray) × Int → Option ((Int) × (List ByteArray))
  | (x0, x1) => (go (.j2 x1 0 x0))
noncomputable def f8 (k : Nat) : (List ByteArray) × Int → Option ((Int) × (List ByteArray)) := start8 (f18 k) (run (step8 (f18 k)) k)
theorem st8 (g18 : Int → Option (ByteArray)) (G : List Item → St TT → Option ((Int) × (List ByteArray))) (p : J8) : evFrom (F8 g18) G 3000 (td8 p) (em8 p) = step8 g18 (fun q => G (td8 q) (em8 q)) p := by
  cases p <;> kernel_rfl
theorem en8 (g18 : Int → Option (ByteArray)) (G : List Item → St TT → Option ((Int) × (List ByteArray))) (a : (List ByteArray) × Int) : ev (F8 g18) G 3000 [.code (bodyOf Tryd.f8)] (st1 ((Db.arr UU 9).en a.1) ((Dl.one (Dc.int UU .i64)).en a.2)) = start8 g18 (fun q => G (td8 q) (em8 q)) a := by
  obtain ⟨x0, x1⟩ := a
  kernel_rfl
theorem snd8 (k : Nat) : SndL Tryd.prog UU 8 (WL (Db.arr UU 9) (Dl.one (Dc.int UU .i64)) (f8 k) (Dc.int UU .i64)) := by
  refine sndL_fn (F := F8 (f18 k)) (fn := Tryd.f8) (body := bodyOf Tryd.f8) ⟨uu, tbl_ok ⟨snd18 k, trivial⟩, mixed⟩ rfl rfl (by kernel_rfl) (by kernel_rfl) (by kernel_rfl) rfl rfl rfl (fun a => Nat.le_of_ble_eq_true rfl) ?_
  intro y a r h
  refine ⟨3000, k, ?_⟩
  refine (en8 (f18 k) _ (y, a)).trans ?_
  rw [show (fun q => evJ (F8 (f18 k)) 3000 k (td8 q) (em8 q)) = run (step8 (f18 k)) k from funext fun q => evJ_run _ _ _ (st8 (f18 k)) k q]
  exact h
noncomputable def F9 (g18 : Int → Option (ByteArray)) : Fn TT (Int) := ⟨Tryd.prog, UU, tbl [(18, .plain (W (Dl.one (Dc.int UU .i64)) g18 (Dc.str UU)))], Tryd.f9.ntmps, Tryd.f9.results.toList, [3], true, 0, annOf [(2, [0, 1, 5])], finD (Dc.int UU .i64)⟩
inductive J9 where
  | j2 (x0 : (List ByteArray)) (x1 : Int) (x2 : Int)
noncomputable def td9 : J9 → List Item
  | .j2 _ _ _ => fnd 2 (bodyOf Tryd.f9) []
noncomputable def em9 : J9 → St TT
  | .j2 x0 x1 x2 => ⟨[(0, .row 9 x0), (1, .v (.int .i64 x1)), (5, .v (.int .i64 x2))], [], 0⟩
noncomputable def step9 (g18 : Int → Option (ByteArray)) (go : J9 → Option (Int)) : J9 → Option (Int)
  | .j2 x0 x1 x2 => (cond (decide ((x2 : Int) < (((x0).length : Nat) : Int))) (cond (decide ((0 : Int) ≤ x2)) (cond (decide ((x2 : Int) < (((x0).length : Nat) : Int))) (((g18 x1)).bind fun r0 => (cond (!(((rd9 x0 x2)).toList == (r0).toList)) (some (-1)) (go (.j2 x0 (w64 (x1 + 1)) (w64 (x2 + 1)))))) none) none) (some x1))
noncomputable def start9 (g18 : Int → Option (ByteArray)) (go : J9 → Option (Int)) : (List ByteArray) × Int → Option (Int)
  | (x0, x1) => (go (.j2 x0 x1 0))
noncomputable def f9 (k : Nat) : (List ByteArray) × Int → Option (Int) := start9 (f18 k) (run (step9 (f18 k)) k)
theorem st9 (g18 : Int → Option (ByteArray)) (G : List Item → St TT → Option (Int)) (p : J9) : evFrom (F9 g18) G 3000 (td9 p) (em9 p) = step9 g18 (fun q => G (td9 q) (em9 q)) p := by
  cases p <;> kernel_rfl
theorem en9 (g18 : Int → Option (ByteArray)) (G : List Item → St TT → Option (Int)) (a : (List ByteArray) × Int) : ev (F9 g18) G 3000 [.code (bodyOf Tryd.f9)] (st0 ((Dl.cons (Dc.row UU 9) (Dl.one (Dc.int UU .i64))).en a)) = start9 g18 (fun q => G (td9 q) (em9 q)) a := by
  obtain ⟨x0, x1⟩ := a
  kernel_rfl
theorem snd9 (k : Nat) : Snd Tryd.prog UU 9 (W (Dl.cons (Dc.row UU 9) (Dl.one (Dc.int UU .i64))) (f9 k) (Dc.int UU .i64)) := by
  refine snd_fn (F := F9 (f18 k)) (fn := Tryd.f9) (body := bodyOf Tryd.f9) ⟨uu, tbl_ok ⟨snd18 k, trivial⟩, mixed⟩ rfl rfl (by kernel_rfl) (by kernel_rfl) (by kernel_rfl) rfl rfl rfl (fun a => Nat.le_of_ble_eq_true rfl) ?_
  intro a r h
  refine ⟨3000, k, ?_⟩
  rw [en9]
  rw [show (fun q => evJ (F9 (f18 k)) 3000 k (td9 q) (em9 q)) = run (step9 (f18 k)) k from funext fun q => evJ_run _ _ _ (st9 (f18 k)) k q]
  exact h
noncomputable def F3 (g5 : ByteArray → Option (Bool × (List ByteArray) × Bool × Unit)) (g6 : ByteArray → Option (Bool × (List ByteArray) × Bool × Unit)) (g7 : (List ByteArray) × (List ByteArray) → Option (Bool)) (g8 : (List ByteArray) × Int → Option ((Int) × (List ByteArray))) (g9 : (List ByteArray) × Int → Option (Int)) : Fn TT (Bool) := ⟨Tryd.prog, UU, tbl [(5, .plain (WK (Dl.one (Dc.str UU)) g5 (Dk.val (Dc.bool UU) (Dk.own 9 (Dk.val (Dc.bool UU) (Dk.nil UU)))))), (6, .plain (WK (Dl.one (Dc.str UU)) g6 (Dk.val (Dc.bool UU) (Dk.own 9 (Dk.val (Dc.bool UU) (Dk.nil UU)))))), (7, .plain (W (Dl.cons (Dc.row UU 9) (Dl.one (Dc.row UU 9))) g7 (Dc.bool UU))), (8, .lent (WL (Db.arr UU 9) (Dl.one (Dc.int UU .i64)) g8 (Dc.int UU .i64))), (9, .plain (W (Dl.cons (Dc.row UU 9) (Dl.one (Dc.int UU .i64))) g9 (Dc.int UU .i64)))], Tryd.f3.ntmps, Tryd.f3.results.toList, [4], true, 0, annOf [(7, [0, 3, 4, 5, 7]), (18, [7, 9])], finD (Dc.bool UU)⟩
inductive J3 where
  | j7 (x0 : ByteArray) (x1 : Bool) (x2 : Bool) (x3 : (List ByteArray)) (x4 : (List ByteArray))
  | j18 (x0 : Int) (x1 : (List ByteArray))
noncomputable def td3 : J3 → List Item
  | .j7 _ _ _ _ _ => fnd 7 (bodyOf Tryd.f3) []
  | .j18 _ _ => fnd 18 (bodyOf Tryd.f3) []
noncomputable def em3 : J3 → St TT
  | .j7 x0 x1 x2 x3 x4 => ⟨[(0, .v (.string x0)), (3, .v (.bool x1)), (4, .own 0), (5, .v (.bool x2)), (7, .own 1)], [(0, .arr 9 x3), (1, .arr 9 x4)], 2⟩
  | .j18 x0 x1 => ⟨[(7, .own 0), (9, .v (.int .i64 x0))], [(0, .arr 9 x1)], 1⟩
noncomputable def step3 (g5 : ByteArray → Option (Bool × (List ByteArray) × Bool × Unit)) (g6 : ByteArray → Option (Bool × (List ByteArray) × Bool × Unit)) (g7 : (List ByteArray) × (List ByteArray) → Option (Bool)) (g8 : (List ByteArray) × Int → Option ((Int) × (List ByteArray))) (g9 : (List ByteArray) × Int → Option (Int)) (go : J3 → Option (Bool)) : J3 → Option (Bool)
  | .j7 x0 x1 x2 x3 x4 => (((g8 (x4, 1))).bind fun r3 => (((g9 ((r3).snd, 1))).bind fun r4 => (cond (decide ((r4 : Int) < 0)) (some false) (cond ((r4 : Int) != (r3).fst) (some false) (((g6 x0)).bind fun r5 => (cond (!((r5).fst == x1)) (some false) (((g7 (((r5).snd).fst, x3))).bind fun r6 => (cond (!r6) (some false) (cond (!((((r5).snd).snd).fst == x2)) (some false) (go (.j18 (r3).fst (r3).snd)))))))))))
  | .j18 x0 x1 => (((g9 (x1, 1))).bind fun r7 => (cond (decide ((r7 : Int) < 0)) (some false) (cond ((r7 : Int) != x0) (some false) (some true))))
noncomputable def start3 (g5 : ByteArray → Option (Bool × (List ByteArray) × Bool × Unit)) (g6 : ByteArray → Option (Bool × (List ByteArray) × Bool × Unit)) (g7 : (List ByteArray) × (List ByteArray) → Option (Bool)) (g8 : (List ByteArray) × Int → Option ((Int) × (List ByteArray))) (g9 : (List ByteArray) × Int → Option (Int)) (go : J3 → Option (Bool)) : ByteArray → Option (Bool)
  | x0 => (cond (decide (((((x0).size : Nat) : Int) : Int) > 1048576)) (some true) (((g5 x0)).bind fun r0 => (((g6 x0)).bind fun r1 => (cond (!((r1).fst == (r0).fst)) (some false) (((g7 (((r1).snd).fst, ((r0).snd).fst))).bind fun r2 => (cond (!r2) (some false) (cond (!((((r1).snd).snd).fst == (((r0).snd).snd).fst)) (some false) (go (.j7 x0 (r0).fst (((r0).snd).snd).fst ((r0).snd).fst ((r1).snd).fst)))))))))
noncomputable def f3 (k : Nat) : ByteArray → Option (Bool) := start3 (f5 k) (f6 k) (f7 k) (f8 k) (f9 k) (run (step3 (f5 k) (f6 k) (f7 k) (f8 k) (f9 k)) k)
theorem st3 (g5 : ByteArray → Option (Bool × (List ByteArray) × Bool × Unit)) (g6 : ByteArray → Option (Bool × (List ByteArray) × Bool × Unit)) (g7 : (List ByteArray) × (List ByteArray) → Option (Bool)) (g8 : (List ByteArray) × Int → Option ((Int) × (List ByteArray))) (g9 : (List ByteArray) × Int → Option (Int)) (G : List Item → St TT → Option (Bool)) (p : J3) : evFrom (F3 g5 g6 g7 g8 g9) G 3000 (td3 p) (em3 p) = step3 g5 g6 g7 g8 g9 (fun q => G (td3 q) (em3 q)) p := by
  cases p <;> kernel_rfl
theorem en3 (g5 : ByteArray → Option (Bool × (List ByteArray) × Bool × Unit)) (g6 : ByteArray → Option (Bool × (List ByteArray) × Bool × Unit)) (g7 : (List ByteArray) × (List ByteArray) → Option (Bool)) (g8 : (List ByteArray) × Int → Option ((Int) × (List ByteArray))) (g9 : (List ByteArray) × Int → Option (Int)) (G : List Item → St TT → Option (Bool)) (a : ByteArray) : ev (F3 g5 g6 g7 g8 g9) G 3000 [.code (bodyOf Tryd.f3)] (st0 ((Dl.one (Dc.str UU)).en a)) = start3 g5 g6 g7 g8 g9 (fun q => G (td3 q) (em3 q)) a := by
  kernel_rfl
theorem snd3 (k : Nat) : Snd Tryd.prog UU 3 (W (Dl.one (Dc.str UU)) (f3 k) (Dc.bool UU)) := by
  refine snd_fn (F := F3 (f5 k) (f6 k) (f7 k) (f8 k) (f9 k)) (fn := Tryd.f3) (body := bodyOf Tryd.f3) ⟨uu, tbl_ok ⟨snd5 k, snd6 k, snd7 k, snd8 k, snd9 k, trivial⟩, mixed⟩ rfl rfl (by kernel_rfl) (by kernel_rfl) (by kernel_rfl) rfl rfl rfl (fun a => Nat.le_of_ble_eq_true rfl) ?_
  intro a r h
  refine ⟨3000, k, ?_⟩
  rw [en3]
  rw [show (fun q => evJ (F3 (f5 k) (f6 k) (f7 k) (f8 k) (f9 k)) 3000 k (td3 q) (em3 q)) = run (step3 (f5 k) (f6 k) (f7 k) (f8 k) (f9 k)) k from funext fun q => evJ_run _ _ _ (st3 (f5 k) (f6 k) (f7 k) (f8 k) (f9 k)) k q]
  exact h
end Go.Sx
