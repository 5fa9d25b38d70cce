/- What the functions that FnPathSteps reaches compute, and that they do. No condition. -/
import Derived.Test.YtjjblclmpjaegaaDoorSxU
import Derived.Test.YtjjblclmpjaegaaDoorSxX13
import Derived.Test.YtjjblclmpjaegaaDoorSxX14
import Derived.Test.YtjjblclmpjaegaaDoorSxX17
set_option linter.unusedVariables false
set_option linter.unusedSimpArgs false
namespace Go.Sx
open Go.RowKit Go.Proofs
noncomputable def F23 : Fn TT (Bool) := ⟨Tryd.prog, UU, tbl [], Tryd.f23.ntmps, Tryd.f23.results.toList, [4], true, 0, annOf [], finD (Dc.bool UU)⟩
noncomputable def start23 : Int × Int × Int → Option (Bool)
  | (x0, x1, x2) => (cond (decide ((x0 : Int) ≥ x1)) (some (decide ((x0 : Int) ≤ x2))) (some false))
noncomputable def f23 (k : Nat) : Int × Int × Int → Option (Bool) := start23
theorem en23 (G : List Item → St TT → Option (Bool)) (a : Int × Int × Int) : ev (F23) G 3000 [.code (bodyOf Tryd.f23)] (st0 ((Dl.cons (Dc.int UU .i64) (Dl.cons (Dc.int UU .i64) (Dl.one (Dc.int UU .i64)))).en a)) = start23 a := by
  obtain ⟨x0, x1, x2⟩ := a
  kernel_rfl
theorem snd23 (k : Nat) : Snd Tryd.prog UU 23 (W (Dl.cons (Dc.int UU .i64) (Dl.cons (Dc.int UU .i64) (Dl.one (Dc.int UU .i64)))) (f23 k) (Dc.bool UU)) := by
  refine snd_fn (F := F23) (fn := Tryd.f23) (body := bodyOf Tryd.f23) ⟨uu, tbl_ok trivial, mixed⟩ rfl rfl (by kernel_rfl) (by kernel_rfl) (by kernel_rfl) rfl rfl rfl (fun a => Nat.le_of_ble_eq_true rfl) ?_
  intro a r h
  refine ⟨3000, k, ?_⟩
  rw [en23]
  exact h
noncomputable def F12 (g23 : Int × Int × Int → Option (Bool)) : Fn TT (Bool) := ⟨Tryd.prog, UU, tbl [(23, .plain (W (Dl.cons (Dc.int UU .i64) (Dl.cons (Dc.int UU .i64) (Dl.one (Dc.int UU .i64)))) g23 (Dc.bool UU)))], Tryd.f12.ntmps, Tryd.f12.results.toList, [4], true, 0, annOf [(2, [0, 3]), (3, [0, 3])], finD (Dc.bool UU)⟩
inductive J12 where
  | j2 (x0 : ByteArray) (x1 : Int)
  | j3 (x0 : ByteArray) (x1 : Int)
noncomputable def td12 : J12 → List Item
  | .j2 _ _ => fnd 2 (bodyOf Tryd.f12) []
  | .j3 _ _ => fnd 3 (bodyOf Tryd.f12) []
noncomputable def em12 : J12 → St TT
  | .j2 x0 x1 => ⟨[(0, .v (.string x0)), (3, .v (.int .i64 x1))], [], 0⟩
  | .j3 x0 x1 => ⟨[(0, .v (.string x0)), (3, .v (.int .i64 x1))], [], 0⟩
noncomputable def step12 (g23 : Int × Int × Int → Option (Bool)) (go : J12 → Option (Bool)) : J12 → Option (Bool)
  | .j2 x0 x1 => (cond (decide ((x1 : Int) < (((x0).size : Nat) : Int))) (cond (decide ((0 : Int) ≤ x1)) (cond (decide ((x1 : Int) < (((x0).size : Nat) : Int))) (cond (decide (((bt x0 x1) : Int) < 97)) (some false) (cond (decide ((0 : Int) ≤ x1)) (cond (decide ((x1 : Int) < (((x0).size : Nat) : Int))) (cond (decide (((bt x0 x1) : Int) > 122)) (some false) (go (.j3 x0 x1))) none) none)) none) none) (((g23 ((((x0).size : Nat) : Int), (1, 3)))).bind fun r0 => (some r0)))
  | .j3 x0 x1 => (go (.j2 x0 (w64 (x1 + 1))))
noncomputable def start12 (g23 : Int × Int × Int → Option (Bool)) (go : J12 → Option (Bool)) : ByteArray → Option (Bool)
  | x0 => (go (.j2 x0 0))
noncomputable def f12 (k : Nat) : ByteArray → Option (Bool) := start12 (f23 k) (run (step12 (f23 k)) k)
theorem st12 (g23 : Int × Int × Int → Option (Bool)) (G : List Item → St TT → Option (Bool)) (p : J12) : evFrom (F12 g23) G 3000 (td12 p) (em12 p) = step12 g23 (fun q => G (td12 q) (em12 q)) p := by
  cases p <;> kernel_rfl
theorem en12 (g23 : Int × Int × Int → Option (Bool)) (G : List Item → St TT → Option (Bool)) (a : ByteArray) : ev (F12 g23) G 3000 [.code (bodyOf Tryd.f12)] (st0 ((Dl.one (Dc.str UU)).en a)) = start12 g23 (fun q => G (td12 q) (em12 q)) a := by
  kernel_rfl
theorem snd12 (k : Nat) : Snd Tryd.prog UU 12 (W (Dl.one (Dc.str UU)) (f12 k) (Dc.bool UU)) := by
  refine snd_fn (F := F12 (f23 k)) (fn := Tryd.f12) (body := bodyOf Tryd.f12) ⟨uu, tbl_ok ⟨snd23 k, trivial⟩, mixed⟩ rfl rfl (by kernel_rfl) (by kernel_rfl) (by kernel_rfl) rfl rfl rfl (fun a => Nat.le_of_ble_eq_true rfl) ?_
  intro a r h
  refine ⟨3000, k, ?_⟩
  rw [en12]
  rw [show (fun q => evJ (F12 (f23 k)) 3000 k (td12 q) (em12 q)) = run (step12 (f23 k)) k from funext fun q => evJ_run _ _ _ (st12 (f23 k)) k q]
  exact h
noncomputable def F5 (g12 : ByteArray → Option (Bool)) : Fn TT (Bool × (List ByteArray) × Bool × Unit) := ⟨Tryd.prog, UU, tbl [(12, .plain (W (Dl.one (Dc.str UU)) g12 (Dc.bool UU)))], Tryd.f5.ntmps, Tryd.f5.results.toList, [4, 22, 4], false, 0, annOf [(3, [0, 5, 6]), (5, [0, 5, 6]), (7, [0, 5, 6, 7, 8]), (9, [0, 5, 6, 7, 8]), (10, [0, 5, 6, 7, 8]), (13, [0, 5, 6, 8, 9]), (8, [0, 5, 6, 7, 8])], finK (Dk.val (Dc.bool UU) (Dk.own 9 (Dk.val (Dc.bool UU) (Dk.nil UU))))⟩
inductive J5 where
  | j3 (x0 : ByteArray) (x1 : Bool) (x2 : (List ByteArray))
  | j5 (x0 : ByteArray) (x1 : Bool) (x2 : (List ByteArray))
  | j7 (x0 : ByteArray) (x1 : Bool) (x2 : Int) (x3 : Int) (x4 : (List ByteArray))
  | j9 (x0 : ByteArray) (x1 : Bool) (x2 : Int) (x3 : Int) (x4 : (List ByteArray))
  | j8 (x0 : ByteArray) (x1 : Bool) (x2 : Int) (x3 : Int) (x4 : (List ByteArray))
  | j10 (x0 : ByteArray) (x1 : Bool) (x2 : Int) (x3 : Int) (x4 : (List ByteArray))
  | j13 (x0 : ByteArray) (x1 : Bool) (x2 : Int) (x3 : ByteArray) (x4 : (List ByteArray))
noncomputable def td5 : J5 → List Item
  | .j3 _ _ _ => fnd 3 (bodyOf Tryd.f5) []
  | .j5 _ _ _ => fnd 5 (bodyOf Tryd.f5) []
  | .j7 _ _ _ _ _ => fnd 7 (bodyOf Tryd.f5) []
  | .j9 _ _ _ _ _ => fnd 9 (bodyOf Tryd.f5) []
  | .j8 _ _ _ _ _ => fnd 8 (bodyOf Tryd.f5) []
  | .j10 _ _ _ _ _ => fnd 10 (bodyOf Tryd.f5) []
  | .j13 _ _ _ _ _ => fnd 13 (bodyOf Tryd.f5) []
noncomputable def em5 : J5 → St TT
  | .j3 x0 x1 x2 => ⟨[(0, .v (.string x0)), (5, .own 0), (6, .v (.bool x1))], [(0, .arr 9 x2)], 1⟩
  | .j5 x0 x1 x2 => ⟨[(0, .v (.string x0)), (5, .own 0), (6, .v (.bool x1))], [(0, .arr 9 x2)], 1⟩
  | .j7 x0 x1 x2 x3 x4 => ⟨[(0, .v (.string x0)), (5, .own 0), (6, .v (.bool x1)), (7, .v (.int .i64 x2)), (8, .v (.int .i64 x3))], [(0, .arr 9 x4)], 1⟩
  | .j9 x0 x1 x2 x3 x4 => ⟨[(0, .v (.string x0)), (5, .own 0), (6, .v (.bool x1)), (7, .v (.int .i64 x2)), (8, .v (.int .i64 x3))], [(0, .arr 9 x4)], 1⟩
  | .j8 x0 x1 x2 x3 x4 => ⟨[(0, .v (.string x0)), (5, .own 0), (6, .v (.bool x1)), (7, .v (.int .i64 x2)), (8, .v (.int .i64 x3))], [(0, .arr 9 x4)], 1⟩
  | .j10 x0 x1 x2 x3 x4 => ⟨[(0, .v (.string x0)), (5, .own 0), (6, .v (.bool x1)), (7, .v (.int .i64 x2)), (8, .v (.int .i64 x3))], [(0, .arr 9 x4)], 1⟩
  | .j13 x0 x1 x2 x3 x4 => ⟨[(0, .v (.string x0)), (5, .own 0), (6, .v (.bool x1)), (8, .v (.int .i64 x2)), (9, .v (.string x3))], [(0, .arr 9 x4)], 1⟩
noncomputable def step5 (g12 : ByteArray → Option (Bool)) (go : J5 → Option (Bool × (List ByteArray) × Bool × Unit)) : J5 → Option (Bool × (List ByteArray) × Bool × Unit)
  | .j3 x0 x1 x2 => (cond x1 (cond (decide ((1 : Int) ≤ (((x0).size : Nat) : Int))) (go (.j5 (ByteArray.extract x0 1 (x0).size) x1 x2)) none) (go (.j5 x0 x1 x2)))
  | .j5 x0 x1 x2 => (go (.j7 x0 x1 0 0 x2))
  | .j7 x0 x1 x2 x3 x4 => (cond (decide ((x3 : Int) ≤ (((x0).size : Nat) : Int))) (cond (!((x0).toList == ((⟨#[]⟩ : ByteArray)).toList)) (go (.j9 x0 x1 x2 x3 x4)) (some (x1, (x4, (true, ()))))) (some (x1, (x4, (true, ())))))
  | .j9 x0 x1 x2 x3 x4 => (cond (decide ((x3 : Int) < (((x0).size : Nat) : Int))) (cond (decide ((0 : Int) ≤ x3)) (cond (decide ((x3 : Int) < (((x0).size : Nat) : Int))) (cond (((bt x0 x3) : Int) != 47) (go (.j8 x0 x1 x2 x3 x4)) (go (.j10 x0 x1 x2 x3 x4))) none) none) (go (.j10 x0 x1 x2 x3 x4)))
  | .j8 x0 x1 x2 x3 x4 => (go (.j7 x0 x1 x2 (w64 (x3 + 1)) x4))
  | .j10 x0 x1 x2 x3 x4 => (cond (decide ((0 : Int) ≤ x3)) (cond (decide ((x3 : Int) ≤ (((x0).size : Nat) : Int))) (cond (decide ((0 : Int) ≤ x2)) (cond (decide ((x2 : Int) ≤ (((x3).toNat : Nat) : Int))) (cond (!(((ByteArray.extract x0 (x2).toNat (x3).toNat)).toList == ((⟨#[46, 46]⟩ : ByteArray)).toList)) (((g12 (ByteArray.extract x0 (x2).toNat (x3).toNat))).bind fun r0 => (cond (!r0) (some (false, (([] : List ByteArray), (false, ())))) (cond (decide (((((x4).length : Nat) : Int) : Int) ≥ 6)) (some (false, (([] : List ByteArray), (false, ())))) (go (.j13 x0 x1 x3 (ByteArray.extract x0 (x2).toNat (x3).toNat) x4))))) (cond (decide (((((x4).length : Nat) : Int) : Int) ≥ 6)) (some (false, (([] : List ByteArray), (false, ())))) (go (.j13 x0 x1 x3 (ByteArray.extract x0 (x2).toNat (x3).toNat) x4)))) none) none) none) none)
  | .j13 x0 x1 x2 x3 x4 => (cond (decide ((((x4).length + ([x3]).length) * 16) ≤ 140737488355328)) (go (.j8 x0 x1 (w64 (x2 + 1)) x2 (x4 ++ [x3]))) none)
noncomputable def start5 (g12 : ByteArray → Option (Bool)) (go : J5 → Option (Bool × (List ByteArray) × Bool × Unit)) : ByteArray → Option (Bool × (List ByteArray) × Bool × Unit)
  | x0 => (cond (decide (((((x0).size : Nat) : Int) : Int) > 0)) (cond (decide ((0 : Int) < (((x0).size : Nat) : Int))) (go (.j3 x0 (((bt x0 0) : Int) == 47) ([] : List ByteArray))) none) (go (.j3 x0 false ([] : List ByteArray))))
noncomputable def f5 (k : Nat) : ByteArray → Option (Bool × (List ByteArray) × Bool × Unit) := start5 (f12 k) (run (step5 (f12 k)) k)
theorem st5 (g12 : ByteArray → Option (Bool)) (G : List Item → St TT → Option (Bool × (List ByteArray) × Bool × Unit)) (p : J5) : evFrom (F5 g12) G 3000 (td5 p) (em5 p) = step5 g12 (fun q => G (td5 q) (em5 q)) p := by
  cases p <;> kernel_rfl
theorem en5 (g12 : ByteArray → Option (Bool)) (G : List Item → St TT → Option (Bool × (List ByteArray) × Bool × Unit)) (a : ByteArray) : ev (F5 g12) G 3000 [.code (bodyOf Tryd.f5)] (st0 ((Dl.one (Dc.str UU)).en a)) = start5 g12 (fun q => G (td5 q) (em5 q)) a := by
  kernel_rfl
theorem snd5 (k : Nat) : Snd Tryd.prog UU 5 (WK (Dl.one (Dc.str UU)) (f5 k) (Dk.val (Dc.bool UU) (Dk.own 9 (Dk.val (Dc.bool UU) (Dk.nil UU))))) := by
  refine sndK_fn (F := F5 (f12 k)) (fn := Tryd.f5) (body := bodyOf Tryd.f5) ⟨uu, tbl_ok ⟨snd12 k, trivial⟩, mixed⟩ rfl (by kernel_rfl) (by kernel_rfl) (by kernel_rfl) rfl rfl rfl (fun a => Nat.le_of_ble_eq_true rfl) ?_
  intro a r h
  refine ⟨3000, k, ?_⟩
  rw [en5]
  rw [show (fun q => evJ (F5 (f12 k)) 3000 k (td5 q) (em5 q)) = run (step5 (f12 k)) k from funext fun q => evJ_run _ _ _ (st5 (f12 k)) k q]
  exact h
noncomputable def F16 (g17 : ByteArray → Option (Bool)) : Fn TT (Bool) := ⟨Tryd.prog, UU, tbl [(17, .plain (W (Dl.one (Dc.str UU)) g17 (Dc.bool UU)))], Tryd.f16.ntmps, Tryd.f16.results.toList, [4], true, 0, annOf [], finD (Dc.bool UU)⟩
noncomputable def start16 (g17 : ByteArray → Option (Bool)) : ByteArray → Option (Bool)
  | x0 => (cond (!((x0).toList == ((⟨#[46, 46]⟩ : ByteArray)).toList)) (((g17 x0)).bind fun r0 => (some (!r0))) (some false))
noncomputable def f16 (k : Nat) : ByteArray → Option (Bool) := start16 (f17 k)
theorem en16 (g17 : ByteArray → Option (Bool)) (G : List Item → St TT → Option (Bool)) (a : ByteArray) : ev (F16 g17) G 3000 [.code (bodyOf Tryd.f16)] (st0 ((Dl.one (Dc.str UU)).en a)) = start16 g17 a := by
  kernel_rfl
theorem snd16 (k : Nat) : Snd Tryd.prog UU 16 (W (Dl.one (Dc.str UU)) (f16 k) (Dc.bool UU)) := by
  refine snd_fn (F := F16 (f17 k)) (fn := Tryd.f16) (body := bodyOf Tryd.f16) ⟨uu, tbl_ok ⟨snd17 k, trivial⟩, mixed⟩ rfl rfl (by kernel_rfl) (by kernel_rfl) (by kernel_rfl) rfl rfl rfl (fun a => Nat.le_of_ble_eq_true rfl) ?_
  intro a r h
  refine ⟨3000, k, ?_⟩
  rw [en16]
  exact h
noncomputable def F26 (g16 : ByteArray → Option (Bool)) : Fn TT (Int) := ⟨Tryd.prog, UU, tbl [(16, .plain (W (Dl.one (Dc.str UU)) g16 (Dc.bool UU)))], Tryd.f26.ntmps, Tryd.f26.results.toList, [3], true, 0, annOf [(2, [0, 1, 7, 8])], finD (Dc.int UU .i64)⟩
inductive J26 where
  | j2 (x0 : (List ByteArray)) (x1 : Int) (x2 : Int)
noncomputable def td26 : J26 → List Item
  | .j2 _ _ _ => fnd 2 (bodyOf Tryd.f26) []
noncomputable def em26 : J26 → St TT
  | .j2 x0 x1 x2 => ⟨[(0, .row 9 x0), (1, .v (.func (.func 16) #[] #[])), (7, .v (.int .i64 x1)), (8, .v (.int .i64 x2))], [], 0⟩
noncomputable def step26 (g16 : ByteArray → Option (Bool)) (go : J26 → Option (Int)) : J26 → Option (Int)
  | .j2 x0 x1 x2 => (cond (decide ((x2 : Int) < x1)) (cond (decide ((0 : Int) ≤ x2)) (cond (decide ((x2 : Int) < (((x0).length : Nat) : Int))) (((g16 (rd9 x0 x2))).bind fun r0 => (cond r0 (some x2) (go (.j2 x0 x1 (w64 (x2 + 1)))))) none) none) (some (-1)))
noncomputable def start26 (g16 : ByteArray → Option (Bool)) (go : J26 → Option (Int)) : (List ByteArray) × Unit → Option (Int)
  | (x0, x1) => (go (.j2 x0 (((x0).length : Nat) : Int) 0))
noncomputable def f26 (k : Nat) : (List ByteArray) × Unit → Option (Int) := start26 (f16 k) (run (step26 (f16 k)) k)
theorem st26 (g16 : ByteArray → Option (Bool)) (G : List Item → St TT → Option (Int)) (p : J26) : evFrom (F26 g16) G 3000 (td26 p) (em26 p) = step26 g16 (fun q => G (td26 q) (em26 q)) p := by
  cases p <;> kernel_rfl
theorem en26 (g16 : ByteArray → Option (Bool)) (G : List Item → St TT → Option (Int)) (a : (List ByteArray) × Unit) : ev (F26 g16) G 3000 [.code (bodyOf Tryd.f26)] (st0 ((Dl.cons (Dc.row UU 9) (Dl.one (Dc.fn UU 16))).en a)) = start26 g16 (fun q => G (td26 q) (em26 q)) a := by
  obtain ⟨x0, x1⟩ := a
  kernel_rfl
theorem snd26 (k : Nat) : Snd Tryd.prog UU 26 (W (Dl.cons (Dc.row UU 9) (Dl.one (Dc.fn UU 16))) (f26 k) (Dc.int UU .i64)) := by
  refine snd_fn (F := F26 (f16 k)) (fn := Tryd.f26) (body := bodyOf Tryd.f26) ⟨uu, tbl_ok ⟨snd16 k, trivial⟩, mixed⟩ rfl rfl (by kernel_rfl) (by kernel_rfl) (by kernel_rfl) rfl rfl rfl (fun a => Nat.le_of_ble_eq_true rfl) ?_
  intro a r h
  refine ⟨3000, k, ?_⟩
  rw [en26]
  rw [show (fun q => evJ (F26 (f16 k)) 3000 k (td26 q) (em26 q)) = run (step26 (f16 k)) k from funext fun q => evJ_run _ _ _ (st26 (f16 k)) k q]
  exact h
noncomputable def F15 (g16 : ByteArray → Option (Bool)) (g26 : (List ByteArray) × Unit → Option (Int)) : Fn TT (Bool) := ⟨Tryd.prog, UU, tbl [(16, .plain (W (Dl.one (Dc.str UU)) g16 (Dc.bool UU))), (26, .plain (W (Dl.cons (Dc.row UU 9) (Dl.one (Dc.fn UU 16))) g26 (Dc.int UU .i64)))], Tryd.f15.ntmps, Tryd.f15.results.toList, [4], true, 0, annOf [], finD (Dc.bool UU)⟩
noncomputable def start15 (g16 : ByteArray → Option (Bool)) (g26 : (List ByteArray) × Unit → Option (Int)) : (List ByteArray) × Unit → Option (Bool)
  | (x0, x1) => (((g26 (x0, ()))).bind fun r0 => (some (decide ((r0 : Int) ≥ 0))))
noncomputable def f15 (k : Nat) : (List ByteArray) × Unit → Option (Bool) := start15 (f16 k) (f26 k)
theorem en15 (g16 : ByteArray → Option (Bool)) (g26 : (List ByteArray) × Unit → Option (Int)) (G : List Item → St TT → Option (Bool)) (a : (List ByteArray) × Unit) : ev (F15 g16 g26) G 3000 [.code (bodyOf Tryd.f15)] (st0 ((Dl.cons (Dc.row UU 9) (Dl.one (Dc.fn UU 16))).en a)) = start15 g16 g26 a := by
  obtain ⟨x0, x1⟩ := a
  kernel_rfl
theorem snd15 (k : Nat) : Snd Tryd.prog UU 15 (W (Dl.cons (Dc.row UU 9) (Dl.one (Dc.fn UU 16))) (f15 k) (Dc.bool UU)) := by
  refine snd_fn (F := F15 (f16 k) (f26 k)) (fn := Tryd.f15) (body := bodyOf Tryd.f15) ⟨uu, tbl_ok ⟨snd16 k, snd26 k, trivial⟩, mixed⟩ rfl rfl (by kernel_rfl) (by kernel_rfl) (by kernel_rfl) rfl rfl rfl (fun a => Nat.le_of_ble_eq_true rfl) ?_
  intro a r h
  refine ⟨3000, k, ?_⟩
  rw [en15]
  exact h
noncomputable def F6 (g13 : ByteArray × ByteArray → Option (ByteArray × Bool)) (g14 : ByteArray × ByteArray → Option ((List ByteArray) × Unit)) (g15 : (List ByteArray) × Unit → Option (Bool)) (g16 : ByteArray → Option (Bool)) : Fn TT (Bool × (List ByteArray) × Bool × Unit) := ⟨Tryd.prog, UU, tbl [(13, .plain (W (Dl.cons (Dc.str UU) (Dl.one (Dc.str UU))) g13 (Dc.tup (Dl.cons (Dc.str UU) (Dl.one (Dc.bool UU)))))), (14, .plain (WK (Dl.cons (Dc.str UU) (Dl.one (Dc.str UU))) g14 (Dk.own 9 (Dk.nil UU)))), (15, .plain (W (Dl.cons (Dc.row UU 9) (Dl.one (Dc.fn UU 16))) g15 (Dc.bool UU))), (16, .plain (W (Dl.one (Dc.str UU)) g16 (Dc.bool UU)))], Tryd.f6.ntmps, Tryd.f6.results.toList, [4, 22, 4], false, 0, annOf [], finK (Dk.val (Dc.bool UU) (Dk.own 9 (Dk.val (Dc.bool UU) (Dk.nil UU))))⟩
noncomputable def start6 (g13 : ByteArray × ByteArray → Option (ByteArray × Bool)) (g14 : ByteArray × ByteArray → Option ((List ByteArray) × Unit)) (g15 : (List ByteArray) × Unit → Option (Bool)) (g16 : ByteArray → Option (Bool)) : ByteArray → Option (Bool × (List ByteArray) × Bool × Unit)
  | x0 => (((g13 (x0, (⟨#[47]⟩ : ByteArray)))).bind fun r0 => (cond (((r0).fst).toList == ((⟨#[]⟩ : ByteArray)).toList) (some ((r0).snd, (([] : List ByteArray), (true, ())))) (((g14 ((r0).fst, (⟨#[47]⟩ : ByteArray)))).bind fun r1 => (cond (decide ((((((r1).fst).length : Nat) : Int) : Int) > 6)) (some (false, (([] : List ByteArray), (false, ())))) (((g15 ((r1).fst, ()))).bind fun r2 => (cond r2 (some (false, (([] : List ByteArray), (false, ())))) (some ((r0).snd, ((r1).fst, (true, ()))))))))))
noncomputable def f6 (k : Nat) : ByteArray → Option (Bool × (List ByteArray) × Bool × Unit) := start6 (f13 k) (f14 k) (f15 k) (f16 k)
theorem en6 (g13 : ByteArray × ByteArray → Option (ByteArray × Bool)) (g14 : ByteArray × ByteArray → Option ((List ByteArray) × Unit)) (g15 : (List ByteArray) × Unit → Option (Bool)) (g16 : ByteArray → Option (Bool)) (G : List Item → St TT → Option (Bool × (List ByteArray) × Bool × Unit)) (a : ByteArray) : ev (F6 g13 g14 g15 g16) G 3000 [.code (bodyOf Tryd.f6)] (st0 ((Dl.one (Dc.str UU)).en a)) = start6 g13 g14 g15 g16 a := by
  kernel_rfl
theorem snd6 (k : Nat) : Snd Tryd.prog UU 6 (WK (Dl.one (Dc.str UU)) (f6 k) (Dk.val (Dc.bool UU) (Dk.own 9 (Dk.val (Dc.bool UU) (Dk.nil UU))))) := by
  refine sndK_fn (F := F6 (f13 k) (f14 k) (f15 k) (f16 k)) (fn := Tryd.f6) (body := bodyOf Tryd.f6) ⟨uu, tbl_ok ⟨snd13 k, snd14 k, snd15 k, snd16 k, trivial⟩, mixed⟩ rfl (by kernel_rfl) (by kernel_rfl) (by kernel_rfl) rfl rfl rfl (fun a => Nat.le_of_ble_eq_true rfl) ?_
  intro a r h
  refine ⟨3000, k, ?_⟩
  rw [en6]
  exact h
noncomputable def F19 : Fn TT (S46 × Unit) := ⟨Tryd.prog, UU, tbl [], Tryd.f19.ntmps, Tryd.f19.results.toList, [36], false, 0, annOf [], finK (Dk.cel (Db.cells uu 46) (Dk.nil UU))⟩
noncomputable def start19 : (List Int) → Option (S46 × Unit)
  | x0 => (cond (decide (((((x0).length : Nat) : Int) : Int) > 2000)) (cond (decide ((2000 : Int) ≤ (((x0).length : Nat) : Int))) (some ((⟨(List.drop 0 (List.take 2000 x0)), 0⟩ : S46), ())) none) (some ((⟨x0, 0⟩ : S46), ())))
noncomputable def f19 (k : Nat) : (List Int) → Option (S46 × Unit) := start19
theorem en19 (G : List Item → St TT → Option (S46 × Unit)) (a : (List Int)) : ev (F19) G 3000 [.code (bodyOf Tryd.f19)] (st0 ((Dl.one (Dc.row UU 5)).en a)) = start19 a := by
  kernel_rfl
theorem snd19 (k : Nat) : Snd Tryd.prog UU 19 (WK (Dl.one (Dc.row UU 5)) (f19 k) (Dk.cel (Db.cells uu 46) (Dk.nil UU))) := by
  refine sndK_fn (F := F19) (fn := Tryd.f19) (body := bodyOf Tryd.f19) ⟨uu, tbl_ok trivial, mixed⟩ rfl (by kernel_rfl) (by kernel_rfl) (by kernel_rfl) rfl rfl rfl (fun a => Nat.le_of_ble_eq_true rfl) ?_
  intro a r h
  refine ⟨3000, k, ?_⟩
  rw [en19]
  exact h
noncomputable def F22 : Fn TT ((Int) × S46) := ⟨Tryd.prog, UU, tbl [], Tryd.f22.ntmps, Tryd.f22.results.toList, [3], true, 1, annOf [(4, [0, 1])], finL (Dc.int UU .i64) (Db.cells uu 46)⟩
inductive J22 where
  | j4 (x0 : Int) (x1 : (List Int)) (x2 : Int)
noncomputable def td22 : J22 → List Item
  | .j4 _ _ _ => fnd 4 (bodyOf Tryd.f22) []
noncomputable def em22 : J22 → St TT
  | .j4 x0 x1 x2 => ⟨[(0, .ptr 0 0), (1, .v (.int .i64 x0))], [(0, .cells 46 [.row 5 x1, .v (.int .i64 x2)])], 1⟩
noncomputable def step22 (go : J22 → Option ((Int) × S46)) : J22 → Option ((Int) × S46)
  | .j4 x0 x1 x2 => (cond (decide (((w64 (x2 - 1)) : Int) < (((x1).length : Nat) : Int))) (cond (decide ((0 : Int) ≤ (w64 (x2 - 1)))) (cond (decide (((w64 (x2 - 1)) : Int) < (((x1).length : Nat) : Int))) (cond (!(decide ((x0 : Int) = 0))) (some ((Int.tmod (w64 (rd5 x1 (w64 (x2 - 1)))) x0), (⟨x1, x2⟩ : S46))) none) none) none) (cond (!(decide (((((x1).length : Nat) : Int) : Int) = 0))) (cond (decide ((0 : Int) ≤ (Int.tmod (w64 (x2 - 1)) (((x1).length : Nat) : Int)))) (cond (decide (((Int.tmod (w64 (x2 - 1)) (((x1).length : Nat) : Int)) : Int) < (((x1).length : Nat) : Int))) (cond (!(decide (((((x1).length : Nat) : Int) : Int) = 0))) (cond (decide ((0 : Int) ≤ (Int.tmod (w64 ((w64 ((w64 (x2 - 1)) * 7)) + 3)) (((x1).length : Nat) : Int)))) (cond (decide (((Int.tmod (w64 ((w64 ((w64 (x2 - 1)) * 7)) + 3)) (((x1).length : Nat) : Int)) : Int) < (((x1).length : Nat) : Int))) (cond (!(decide (((((x1).length : Nat) : Int) : Int) = 0))) (cond (!(decide ((x0 : Int) = 0))) (some ((Int.tmod (xor_ Go.IntKind.i64 (w64 ((w64 ((w64 ((w64 ((w64 (rd5 x1 (Int.tmod (w64 (x2 - 1)) (((x1).length : Nat) : Int)))) * 131)) + (w64 ((w64 (rd5 x1 (Int.tmod (w64 ((w64 ((w64 (x2 - 1)) * 7)) + 3)) (((x1).length : Nat) : Int)))) * 1117)))) + (w64 ((w64 (x2 - 1)) * 29)))) + (w64 ((w64 (Int.tdiv (w64 (x2 - 1)) (((x1).length : Nat) : Int))) * 53)))) (w64 (Int.tdiv (w64 ((w64 ((w64 ((w64 ((w64 (rd5 x1 (Int.tmod (w64 (x2 - 1)) (((x1).length : Nat) : Int)))) * 131)) + (w64 ((w64 (rd5 x1 (Int.tmod (w64 ((w64 ((w64 (x2 - 1)) * 7)) + 3)) (((x1).length : Nat) : Int)))) * 1117)))) + (w64 ((w64 (x2 - 1)) * 29)))) + (w64 ((w64 (Int.tdiv (w64 (x2 - 1)) (((x1).length : Nat) : Int))) * 53)))) 64))) x0), (⟨x1, x2⟩ : S46))) none) none) none) none) none) none) none) none))
noncomputable def start22 (go : J22 → Option ((Int) × S46)) : S46 × Int → Option ((Int) × S46)
  | (x0, x1) => (cond (decide ((x1 : Int) < 1)) (some (0, (⟨(x0).f0, (w64 ((x0).f1 + 1))⟩ : S46))) (cond ((((((x0).f0).length : Nat) : Int) : Int) == 0) (some (0, (⟨(x0).f0, (w64 ((x0).f1 + 1))⟩ : S46))) (go (.j4 x1 (x0).f0 (w64 ((x0).f1 + 1))))))
noncomputable def f22 (k : Nat) : S46 × Int → Option ((Int) × S46) := start22 (run (step22) k)
theorem st22 (G : List Item → St TT → Option ((Int) × S46)) (p : J22) : evFrom (F22) G 3000 (td22 p) (em22 p) = step22 (fun q => G (td22 q) (em22 q)) p := by
  cases p <;> kernel_rfl
theorem en22 (G : List Item → St TT → Option ((Int) × S46)) (a : S46 × Int) : ev (F22) G 3000 [.code (bodyOf Tryd.f22)] (st1 ((Db.cells uu 46).en a.1) ((Dl.one (Dc.int UU .i64)).en a.2)) = start22 (fun q => G (td22 q) (em22 q)) a := by
  obtain ⟨x0, x1⟩ := a
  kernel_rfl
theorem snd22 (k : Nat) : SndL Tryd.prog UU 22 (WL (Db.cells uu 46) (Dl.one (Dc.int UU .i64)) (f22 k) (Dc.int UU .i64)) := by
  refine sndL_fn (F := F22) (fn := Tryd.f22) (body := bodyOf Tryd.f22) ⟨uu, tbl_ok trivial, mixed⟩ rfl rfl (by kernel_rfl) (by kernel_rfl) (by kernel_rfl) rfl rfl rfl (fun a => Nat.le_of_ble_eq_true rfl) ?_
  intro y a r h
  refine ⟨3000, k, ?_⟩
  refine (en22 _ (y, a)).trans ?_
  rw [show (fun q => evJ (F22) 3000 k (td22 q) (em22 q)) = run (step22) k from funext fun q => evJ_run _ _ _ (st22) k q]
  exact h
noncomputable def F21 (g22 : S46 × Int → Option ((Int) × S46)) : Fn TT ((ByteArray) × S46) := ⟨Tryd.prog, UU, tbl [(22, .lent (WL (Db.cells uu 46) (Dl.one (Dc.int UU .i64)) g22 (Dc.int UU .i64)))], Tryd.f21.ntmps, Tryd.f21.results.toList, [9], true, 1, annOf [], finL (Dc.str UU) (Db.cells uu 46)⟩
noncomputable def start21 (g22 : S46 × Int → Option ((Int) × S46)) : S46 × Unit → Option ((ByteArray) × S46)
  | (x0, _) => (((g22 ((x0), 24))).bind fun r0 => (cond (((r0).fst : Int) == 0) (((g22 (((r0).snd), 5))).bind fun r1 => (cond (decide ((0 : Int) ≤ (r1).fst)) (cond (decide (((r1).fst : Int) < 5)) (cond (decide ((0 : Int) ≤ (r1).fst)) (cond (decide (((r1).fst : Int) < 5)) (some ((rd9 [(⟨#[]⟩ : ByteArray), (⟨#[65]⟩ : ByteArray), (⟨#[97, 98, 99, 100]⟩ : ByteArray), (⟨#[46, 46]⟩ : ByteArray), (⟨#[97, 47]⟩ : ByteArray)] (r1).fst), ((r1).snd))) none) none) none) none)) (((g22 (((r0).snd), 4))).bind fun r2 => (cond (decide ((0 : Int) ≤ (r2).fst)) (cond (decide (((r2).fst : Int) < 4)) (cond (decide ((0 : Int) ≤ (r2).fst)) (cond (decide (((r2).fst : Int) < 4)) (some ((rd9 [(⟨#[97]⟩ : ByteArray), (⟨#[98]⟩ : ByteArray), (⟨#[99]⟩ : ByteArray), (⟨#[97, 98]⟩ : ByteArray)] (r2).fst), ((r2).snd))) none) none) none) none))))
noncomputable def f21 (k : Nat) : S46 × Unit → Option ((ByteArray) × S46) := start21 (f22 k)
theorem en21 (g22 : S46 × Int → Option ((Int) × S46)) (G : List Item → St TT → Option ((ByteArray) × S46)) (a : S46 × Unit) : ev (F21 g22) G 3000 [.code (bodyOf Tryd.f21)] (st1 ((Db.cells uu 46).en a.1) ((Dl.nil UU).en a.2)) = start21 g22 a := by
  kernel_rfl
theorem snd21 (k : Nat) : SndL Tryd.prog UU 21 (WL (Db.cells uu 46) (Dl.nil UU) (f21 k) (Dc.str UU)) := by
  refine sndL_fn (F := F21 (f22 k)) (fn := Tryd.f21) (body := bodyOf Tryd.f21) ⟨uu, tbl_ok ⟨snd22 k, trivial⟩, mixed⟩ rfl rfl (by kernel_rfl) (by kernel_rfl) (by kernel_rfl) rfl rfl rfl (fun a => Nat.le_of_ble_eq_true rfl) ?_
  intro y a r h
  refine ⟨3000, k, ?_⟩
  refine (en21 (f22 k) _ (y, a)).trans ?_
  exact h
noncomputable def F20 (g22 : S46 × Int → Option ((Int) × S46)) : Fn TT ((ByteArray) × S46) := ⟨Tryd.prog, UU, tbl [(22, .lent (WL (Db.cells uu 46) (Dl.one (Dc.int UU .i64)) g22 (Dc.int UU .i64)))], Tryd.f20.ntmps, Tryd.f20.results.toList, [9], true, 1, annOf [], finL (Dc.str UU) (Db.cells uu 46)⟩
noncomputable def start20 (g22 : S46 × Int → Option ((Int) × S46)) : S46 × Unit → Option ((ByteArray) × S46)
  | (x0, _) => (((g22 ((x0), 24))).bind fun r0 => (cond (((r0).fst : Int) == 0) (((g22 (((r0).snd), 7))).bind fun r1 => (cond (decide ((0 : Int) ≤ (r1).fst)) (cond (decide (((r1).fst : Int) < 7)) (cond (decide ((0 : Int) ≤ (r1).fst)) (cond (decide (((r1).fst : Int) < 7)) (some ((rd9 [(⟨#[47, 47]⟩ : ByteArray), (⟨#[47, 97, 47]⟩ : ByteArray), (⟨#[47, 65]⟩ : ByteArray), (⟨#[97, 47, 47, 98]⟩ : ByteArray), (⟨#[47, 97, 47, 98, 47, 99, 47, 97, 47, 98, 47, 99, 47, 97]⟩ : ByteArray), (⟨#[46, 46, 46, 46, 47, 97]⟩ : ByteArray), (⟨#[47, 97, 98, 99, 100]⟩ : ByteArray)] (r1).fst), ((r1).snd))) none) none) none) none)) (((g22 (((r0).snd), 14))).bind fun r2 => (cond (decide ((0 : Int) ≤ (r2).fst)) (cond (decide (((r2).fst : Int) < 14)) (cond (decide ((0 : Int) ≤ (r2).fst)) (cond (decide (((r2).fst : Int) < 14)) (some ((rd9 [(⟨#[47, 97]⟩ : ByteArray), (⟨#[47, 98]⟩ : ByteArray), (⟨#[47, 97, 47, 98]⟩ : ByteArray), (⟨#[98]⟩ : ByteArray), (⟨#[97]⟩ : ByteArray), (⟨#[46, 46]⟩ : ByteArray), (⟨#[47]⟩ : ByteArray), (⟨#[]⟩ : ByteArray), (⟨#[47, 97, 47, 46, 46]⟩ : ByteArray), (⟨#[47, 97, 47, 98, 47, 99]⟩ : ByteArray), (⟨#[46, 46, 47, 97]⟩ : ByteArray), (⟨#[99]⟩ : ByteArray), (⟨#[97, 47, 46, 46, 47, 98]⟩ : ByteArray), (⟨#[47, 99, 47, 97]⟩ : ByteArray)] (r2).fst), ((r2).snd))) none) none) none) none))))
noncomputable def f20 (k : Nat) : S46 × Unit → Option ((ByteArray) × S46) := start20 (f22 k)
theorem en20 (g22 : S46 × Int → Option ((Int) × S46)) (G : List Item → St TT → Option ((ByteArray) × S46)) (a : S46 × Unit) : ev (F20 g22) G 3000 [.code (bodyOf Tryd.f20)] (st1 ((Db.cells uu 46).en a.1) ((Dl.nil UU).en a.2)) = start20 g22 a := by
  kernel_rfl
theorem snd20 (k : Nat) : SndL Tryd.prog UU 20 (WL (Db.cells uu 46) (Dl.nil UU) (f20 k) (Dc.str UU)) := by
  refine sndL_fn (F := F20 (f22 k)) (fn := Tryd.f20) (body := bodyOf Tryd.f20) ⟨uu, tbl_ok ⟨snd22 k, trivial⟩, mixed⟩ rfl rfl (by kernel_rfl) (by kernel_rfl) (by kernel_rfl) rfl rfl rfl (fun a => Nat.le_of_ble_eq_true rfl) ?_
  intro y a r h
  refine ⟨3000, k, ?_⟩
  refine (en20 (f22 k) _ (y, a)).trans ?_
  exact h
noncomputable def F10 (g19 : (List Int) → Option (S46 × Unit)) (g22 : S46 × Int → Option ((Int) × S46)) (g21 : S46 × Unit → Option ((ByteArray) × S46)) (g20 : S46 × Unit → Option ((ByteArray) × S46)) : Fn TT (ByteArray) := ⟨Tryd.prog, UU, tbl [(19, .plain (WK (Dl.one (Dc.row UU 5)) g19 (Dk.cel (Db.cells uu 46) (Dk.nil UU)))), (22, .lent (WL (Db.cells uu 46) (Dl.one (Dc.int UU .i64)) g22 (Dc.int UU .i64))), (21, .lent (WL (Db.cells uu 46) (Dl.nil UU) g21 (Dc.str UU))), (20, .lent (WL (Db.cells uu 46) (Dl.nil UU) g20 (Dc.str UU)))], Tryd.f10.ntmps, Tryd.f10.results.toList, [9], true, 0, annOf [], finD (Dc.str UU)⟩
noncomputable def start10 (g19 : (List Int) → Option (S46 × Unit)) (g22 : S46 × Int → Option ((Int) × S46)) (g21 : S46 × Unit → Option ((ByteArray) × S46)) (g20 : S46 × Unit → Option ((ByteArray) × S46)) : (List Int) → Option (ByteArray)
  | x0 => (((g19 x0)).bind fun r0 => (((g20 (((r0).fst), ()))).bind fun r1 => (((g20 (((r1).snd), ()))).bind fun r2 => (cond (decide ((((r2).fst).size + ((⟨#[47]⟩ : ByteArray)).size) ≤ 9223372036854775807)) (((g21 (((r2).snd), ()))).bind fun r3 => (cond (decide (((((r2).fst ++ (⟨#[47]⟩ : ByteArray))).size + ((r3).fst).size) ≤ 9223372036854775807)) (((g22 (((r3).snd), 2))).bind fun r4 => (cond (decide ((0 : Int) ≤ (r4).fst)) (cond (decide (((r4).fst : Int) < 2)) (cond (decide ((0 : Int) ≤ (r4).fst)) (cond (decide (((r4).fst : Int) < 2)) (some (rd9 [(r1).fst, (((r2).fst ++ (⟨#[47]⟩ : ByteArray)) ++ (r3).fst)] (r4).fst)) none) none) none) none)) none)) none))))
noncomputable def f10 (k : Nat) : (List Int) → Option (ByteArray) := start10 (f19 k) (f22 k) (f21 k) (f20 k)
theorem en10 (g19 : (List Int) → Option (S46 × Unit)) (g22 : S46 × Int → Option ((Int) × S46)) (g21 : S46 × Unit → Option ((ByteArray) × S46)) (g20 : S46 × Unit → Option ((ByteArray) × S46)) (G : List Item → St TT → Option (ByteArray)) (a : (List Int)) : ev (F10 g19 g22 g21 g20) G 3000 [.code (bodyOf Tryd.f10)] (st0 ((Dl.one (Dc.row UU 5)).en a)) = start10 g19 g22 g21 g20 a := by
  kernel_rfl
theorem snd10 (k : Nat) : Snd Tryd.prog UU 10 (W (Dl.one (Dc.row UU 5)) (f10 k) (Dc.str UU)) := by
  refine snd_fn (F := F10 (f19 k) (f22 k) (f21 k) (f20 k)) (fn := Tryd.f10) (body := bodyOf Tryd.f10) ⟨uu, tbl_ok ⟨snd19 k, snd22 k, snd21 k, snd20 k, trivial⟩, mixed⟩ rfl rfl (by kernel_rfl) (by kernel_rfl) (by kernel_rfl) rfl rfl rfl (fun a => Nat.le_of_ble_eq_true rfl) ?_
  intro a r h
  refine ⟨3000, k, ?_⟩
  rw [en10]
  exact h
noncomputable def F11 : Fn TT (Bool) := ⟨Tryd.prog, UU, tbl [], Tryd.f11.ntmps, Tryd.f11.results.toList, [4], true, 0, annOf [(4, [0, 1, 5])], finD (Dc.bool UU)⟩
inductive J11 where
  | j4 (x0 : (List ByteArray)) (x1 : (List ByteArray)) (x2 : Int)
noncomputable def td11 : J11 → List Item
  | .j4 _ _ _ => fnd 4 (bodyOf Tryd.f11) []
noncomputable def em11 : J11 → St TT
  | .j4 x0 x1 x2 => ⟨[(0, .row 9 x0), (1, .row 9 x1), (5, .v (.int .i64 x2))], [], 0⟩
noncomputable def step11 (go : J11 → Option (Bool)) : J11 → Option (Bool)
  | .j4 x0 x1 x2 => (cond (decide ((x2 : Int) < (((x0).length : Nat) : Int))) (cond (decide ((0 : Int) ≤ x2)) (cond (decide ((x2 : Int) < (((x0).length : Nat) : Int))) (cond (decide ((0 : Int) ≤ x2)) (cond (decide ((x2 : Int) < (((x1).length : Nat) : Int))) (cond (!(((rd9 x0 x2)).toList == ((rd9 x1 x2)).toList)) (some false) (go (.j4 x0 x1 (w64 (x2 + 1))))) none) none) none) none) (some true))
noncomputable def start11 (go : J11 → Option (Bool)) : (List ByteArray) × (List ByteArray) → Option (Bool)
  | (x0, x1) => (cond (((((x0).length : Nat) : Int) : Int) != (((x1).length : Nat) : Int)) (some false) (go (.j4 x0 x1 0)))
noncomputable def f11 (k : Nat) : (List ByteArray) × (List ByteArray) → Option (Bool) := start11 (run (step11) k)
theorem st11 (G : List Item → St TT → Option (Bool)) (p : J11) : evFrom (F11) G 3000 (td11 p) (em11 p) = step11 (fun q => G (td11 q) (em11 q)) p := by
  cases p <;> kernel_rfl
theorem en11 (G : List Item → St TT → Option (Bool)) (a : (List ByteArray) × (List ByteArray)) : ev (F11) G 3000 [.code (bodyOf Tryd.f11)] (st0 ((Dl.cons (Dc.row UU 9) (Dl.one (Dc.row UU 9))).en a)) = start11 (fun q => G (td11 q) (em11 q)) a := by
  obtain ⟨x0, x1⟩ := a
  kernel_rfl
theorem snd11 (k : Nat) : Snd Tryd.prog UU 11 (W (Dl.cons (Dc.row UU 9) (Dl.one (Dc.row UU 9))) (f11 k) (Dc.bool UU)) := by
  refine snd_fn (F := F11) (fn := Tryd.f11) (body := bodyOf Tryd.f11) ⟨uu, tbl_ok trivial, mixed⟩ rfl rfl (by kernel_rfl) (by kernel_rfl) (by kernel_rfl) rfl rfl rfl (fun a => Nat.le_of_ble_eq_true rfl) ?_
  intro a r h
  refine ⟨3000, k, ?_⟩
  rw [en11]
  rw [show (fun q => evJ (F11) 3000 k (td11 q) (em11 q)) = run (step11) k from funext fun q => evJ_run _ _ _ (st11) k q]
  exact h
noncomputable def F4 (g5 : ByteArray → Option (Bool × (List ByteArray) × Bool × Unit)) (g6 : ByteArray → Option (Bool × (List ByteArray) × Bool × Unit)) (g10 : (List Int) → Option (ByteArray)) (g11 : (List ByteArray) × (List ByteArray) → Option (Bool)) : Fn TT (Bool) := ⟨Tryd.prog, UU, tbl [(5, .plain (WK (Dl.one (Dc.str UU)) g5 (Dk.val (Dc.bool UU) (Dk.own 9 (Dk.val (Dc.bool UU) (Dk.nil UU)))))), (6, .plain (WK (Dl.one (Dc.str UU)) g6 (Dk.val (Dc.bool UU) (Dk.own 9 (Dk.val (Dc.bool UU) (Dk.nil UU)))))), (10, .plain (W (Dl.one (Dc.row UU 5)) g10 (Dc.str UU))), (11, .plain (W (Dl.cons (Dc.row UU 9) (Dl.one (Dc.row UU 9))) g11 (Dc.bool UU)))], Tryd.f4.ntmps, Tryd.f4.results.toList, [4], true, 0, annOf [(7, [3, 4, 5, 6, 10]), (9, [3, 4, 5]), (11, [3, 4, 5, 11, 12]), (15, [3, 4, 5, 11, 12])], finD (Dc.bool UU)⟩
inductive J4 where
  | j7 (x0 : ByteArray) (x1 : Bool) (x2 : Bool) (x3 : Bool) (x4 : (List ByteArray))
  | j9 (x0 : ByteArray) (x1 : Bool) (x2 : (List ByteArray))
  | j11 (x0 : ByteArray) (x1 : Bool) (x2 : ByteArray) (x3 : Int) (x4 : (List ByteArray))
  | j15 (x0 : ByteArray) (x1 : Bool) (x2 : ByteArray) (x3 : Int) (x4 : (List ByteArray))
noncomputable def td4 : J4 → List Item
  | .j7 _ _ _ _ _ => fnd 7 (bodyOf Tryd.f4) []
  | .j9 _ _ _ => fnd 9 (bodyOf Tryd.f4) []
  | .j11 _ _ _ _ _ => fnd 11 (bodyOf Tryd.f4) []
  | .j15 _ _ _ _ _ => fnd 15 (bodyOf Tryd.f4) []
noncomputable def em4 : J4 → St TT
  | .j7 x0 x1 x2 x3 x4 => ⟨[(3, .v (.string x0)), (4, .v (.bool x1)), (5, .own 0), (6, .v (.bool x2)), (10, .v (.bool x3))], [(0, .arr 9 x4)], 1⟩
  | .j9 x0 x1 x2 => ⟨[(3, .v (.string x0)), (4, .v (.bool x1)), (5, .own 0)], [(0, .arr 9 x2)], 1⟩
  | .j11 x0 x1 x2 x3 x4 => ⟨[(3, .v (.string x0)), (4, .v (.bool x1)), (5, .own 0), (11, .v (.string x2)), (12, .v (.int .i64 x3))], [(0, .arr 9 x4)], 1⟩
  | .j15 x0 x1 x2 x3 x4 => ⟨[(3, .v (.string x0)), (4, .v (.bool x1)), (5, .own 0), (11, .v (.string x2)), (12, .v (.int .i64 x3))], [(0, .arr 9 x4)], 1⟩
noncomputable def step4 (g5 : ByteArray → Option (Bool × (List ByteArray) × Bool × Unit)) (g6 : ByteArray → Option (Bool × (List ByteArray) × Bool × Unit)) (g10 : (List Int) → Option (ByteArray)) (g11 : (List ByteArray) × (List ByteArray) → Option (Bool)) (go : J4 → Option (Bool)) : J4 → Option (Bool)
  | .j7 x0 x1 x2 x3 x4 => (cond (!x3) (some x3) (cond (!x2) (some x3) (go (.j9 x0 x1 x4))))
  | .j9 x0 x1 x2 => (go (.j11 x0 x1 (⟨#[]⟩ : ByteArray) 0 x2))
  | .j11 x0 x1 x2 x3 x4 => (cond (decide ((x3 : Int) < (((x4).length : Nat) : Int))) (cond (decide ((x3 : Int) > 0)) (cond (decide (((x2).size + ((⟨#[47]⟩ : ByteArray)).size) ≤ 9223372036854775807)) (go (.j15 x0 x1 (x2 ++ (⟨#[47]⟩ : ByteArray)) x3 x4)) none) (go (.j15 x0 x1 x2 x3 x4))) (cond x1 (cond (decide ((((⟨#[47]⟩ : ByteArray)).size + (x2).size) ≤ 9223372036854775807)) (cond ((((⟨#[47]⟩ : ByteArray) ++ x2)).toList == (x0).toList) (some (decide (((((x4).length : Nat) : Int) : Int) ≤ 6))) (some false)) none) (cond ((x2).toList == (x0).toList) (some (decide (((((x4).length : Nat) : Int) : Int) ≤ 6))) (some false))))
  | .j15 x0 x1 x2 x3 x4 => (cond (decide ((0 : Int) ≤ x3)) (cond (decide ((x3 : Int) < (((x4).length : Nat) : Int))) (cond (decide ((0 : Int) ≤ x3)) (cond (decide ((x3 : Int) < (((x4).length : Nat) : Int))) (cond (decide (((x2).size + ((rd9 x4 x3)).size) ≤ 9223372036854775807)) (go (.j11 x0 x1 (x2 ++ (rd9 x4 x3)) (w64 (x3 + 1)) x4)) none) none) none) none) none)
noncomputable def start4 (g5 : ByteArray → Option (Bool × (List ByteArray) × Bool × Unit)) (g6 : ByteArray → Option (Bool × (List ByteArray) × Bool × Unit)) (g10 : (List Int) → Option (ByteArray)) (g11 : (List ByteArray) × (List ByteArray) → Option (Bool)) (go : J4 → Option (Bool)) : (List Int) → Option (Bool)
  | x0 => (cond (decide (((((x0).length : Nat) : Int) : Int) > 1048576)) (some true) (((g10 x0)).bind fun r0 => (((g6 r0)).bind fun r1 => (((g5 r0)).bind fun r2 => (cond ((r1).fst == (r2).fst) (((g11 (((r1).snd).fst, ((r2).snd).fst))).bind fun r3 => (cond r3 (go (.j7 r0 (r1).fst (((r1).snd).snd).fst ((((r1).snd).snd).fst == (((r2).snd).snd).fst) ((r1).snd).fst)) (go (.j7 r0 (r1).fst (((r1).snd).snd).fst false ((r1).snd).fst)))) (go (.j7 r0 (r1).fst (((r1).snd).snd).fst false ((r1).snd).fst)))))))
noncomputable def f4 (k : Nat) : (List Int) → Option (Bool) := start4 (f5 k) (f6 k) (f10 k) (f11 k) (run (step4 (f5 k) (f6 k) (f10 k) (f11 k)) k)
theorem st4 (g5 : ByteArray → Option (Bool × (List ByteArray) × Bool × Unit)) (g6 : ByteArray → Option (Bool × (List ByteArray) × Bool × Unit)) (g10 : (List Int) → Option (ByteArray)) (g11 : (List ByteArray) × (List ByteArray) → Option (Bool)) (G : List Item → St TT → Option (Bool)) (p : J4) : evFrom (F4 g5 g6 g10 g11) G 3000 (td4 p) (em4 p) = step4 g5 g6 g10 g11 (fun q => G (td4 q) (em4 q)) p := by
  cases p <;> kernel_rfl
theorem en4 (g5 : ByteArray → Option (Bool × (List ByteArray) × Bool × Unit)) (g6 : ByteArray → Option (Bool × (List ByteArray) × Bool × Unit)) (g10 : (List Int) → Option (ByteArray)) (g11 : (List ByteArray) × (List ByteArray) → Option (Bool)) (G : List Item → St TT → Option (Bool)) (a : (List Int)) : ev (F4 g5 g6 g10 g11) G 3000 [.code (bodyOf Tryd.f4)] (st0 ((Dl.one (Dc.row UU 5)).en a)) = start4 g5 g6 g10 g11 (fun q => G (td4 q) (em4 q)) a := by
  kernel_rfl
theorem snd4 (k : Nat) : Snd Tryd.prog UU 4 (W (Dl.one (Dc.row UU 5)) (f4 k) (Dc.bool UU)) := by
  refine snd_fn (F := F4 (f5 k) (f6 k) (f10 k) (f11 k)) (fn := Tryd.f4) (body := bodyOf Tryd.f4) ⟨uu, tbl_ok ⟨snd5 k, snd6 k, snd10 k, snd11 k, trivial⟩, mixed⟩ rfl rfl (by kernel_rfl) (by kernel_rfl) (by kernel_rfl) rfl rfl rfl (fun a => Nat.le_of_ble_eq_true rfl) ?_
  intro a r h
  refine ⟨3000, k, ?_⟩
  rw [en4]
  rw [show (fun q => evJ (F4 (f5 k) (f6 k) (f10 k) (f11 k)) 3000 k (td4 q) (em4 q)) = run (step4 (f5 k) (f6 k) (f10 k) (f11 k)) k from funext fun q => evJ_run _ _ _ (st4 (f5 k) (f6 k) (f10 k) (f11 k)) k q]
  exact h
end Go.Sx
