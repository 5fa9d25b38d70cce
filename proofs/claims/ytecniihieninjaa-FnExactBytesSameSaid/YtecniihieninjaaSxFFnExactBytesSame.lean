/- What the functions that FnExactBytesSame reaches compute, and that they do. No condition. -/
import Derived.Test.YtecniihieninjaaSxU
set_option linter.unusedVariables false
set_option linter.unusedSimpArgs false
namespace Go.Sx
open Go.RowKit Go.Proofs
noncomputable def F42 : Fn TT (Int) := ⟨Try.prog, UU, tbl [], Try.f42.ntmps, Try.f42.results.toList, [3], true, annOf [], finD (Dc.int UU .i64)⟩
noncomputable def start42 : (List Int) × Int → Option (Int)
  | (x0, x1) => (cond (decide (((w64 (x1 - (((x0).length : Nat) : Int))) : Int) < 0)) (some (-1)) (some (w64 (x1 - (((x0).length : Nat) : Int)))))
noncomputable def f42 (k : Nat) : (List Int) × Int → Option (Int) := start42
theorem en42 (G : List Item → St TT → Option (Int)) (a : (List Int) × Int) : ev (F42) G 3000 [.code (bodyOf Try.f42)] (st0 ((Dl.cons (Dc.row UU 3) (Dl.one (Dc.int UU .i64))).en a)) = start42 a := by
  obtain ⟨x0, x1⟩ := a
  kernel_rfl
theorem snd42 (k : Nat) : Snd Try.prog UU 42 (W (Dl.cons (Dc.row UU 3) (Dl.one (Dc.int UU .i64))) (f42 k) (Dc.int UU .i64)) := by
  refine snd_fn (F := F42) (fn := Try.f42) (body := bodyOf Try.f42) ⟨uu, tbl_ok trivial, mixed⟩ (by kernel_rfl) (by kernel_rfl) (by kernel_rfl) rfl rfl rfl (fun a => Nat.le_of_ble_eq_true rfl) ?_
  intro a r h
  refine ⟨3000, k, ?_⟩
  rw [en42]
  exact h
noncomputable def F78 : Fn TT (Int) := ⟨Try.prog, UU, tbl [], Try.f78.ntmps, Try.f78.results.toList, [3], true, annOf [], finD (Dc.int UU .i64)⟩
noncomputable def start78 : (List S147) × Int → Option (Int)
  | (x0, x1) => (cond (decide (((w64 (x1 - (((x0).length : Nat) : Int))) : Int) < 0)) (some (-1)) (some (w64 (x1 - (((x0).length : Nat) : Int)))))
noncomputable def f78 (k : Nat) : (List S147) × Int → Option (Int) := start78
theorem en78 (G : List Item → St TT → Option (Int)) (a : (List S147) × Int) : ev (F78) G 3000 [.code (bodyOf Try.f78)] (st0 ((Dl.cons (Dc.row UU 147) (Dl.one (Dc.int UU .i64))).en a)) = start78 a := by
  obtain ⟨x0, x1⟩ := a
  kernel_rfl
theorem snd78 (k : Nat) : Snd Try.prog UU 78 (W (Dl.cons (Dc.row UU 147) (Dl.one (Dc.int UU .i64))) (f78 k) (Dc.int UU .i64)) := by
  refine snd_fn (F := F78) (fn := Try.f78) (body := bodyOf Try.f78) ⟨uu, tbl_ok trivial, mixed⟩ (by kernel_rfl) (by kernel_rfl) (by kernel_rfl) rfl rfl rfl (fun a => Nat.le_of_ble_eq_true rfl) ?_
  intro a r h
  refine ⟨3000, k, ?_⟩
  rw [en78]
  exact h
noncomputable def F79 : Fn TT (Int) := ⟨Try.prog, UU, tbl [], Try.f79.ntmps, Try.f79.results.toList, [3], true, annOf [(5, [0, 1, 5])], finD (Dc.int UU .i64)⟩
inductive J79 where
  | j5 (x0 : (List ByteArray)) (x1 : Int) (x2 : Int)
noncomputable def td79 : J79 → List Item
  | .j5 _ _ _ => fnd 5 (bodyOf Try.f79) []
noncomputable def em79 : J79 → St TT
  | .j5 x0 x1 x2 => ⟨[(0, .row 9 x0), (1, .v (.int .i64 x1)), (5, .v (.int .i64 x2))], [], 0⟩
noncomputable def step79 (go : J79 → Option (Int)) : J79 → Option (Int)
  | .j5 x0 x1 x2 => (cond (decide ((x2 : Int) < (((x0).length : Nat) : Int))) (cond (decide ((0 : Int) ≤ x2)) (cond (decide ((x2 : Int) < (((x0).length : Nat) : Int))) (cond (decide (((w64 (x1 - ((((rd9 x0 x2)).size : Nat) : Int))) : Int) < 0)) (some (-1)) (go (.j5 x0 (w64 (x1 - ((((rd9 x0 x2)).size : Nat) : Int))) (w64 (x2 + 1))))) none) none) (some x1))
noncomputable def start79 (go : J79 → Option (Int)) : (List ByteArray) × Int → Option (Int)
  | (x0, x1) => (cond (decide (((w64 (x1 - (((x0).length : Nat) : Int))) : Int) < 0)) (some (-1)) (go (.j5 x0 (w64 (x1 - (((x0).length : Nat) : Int))) 0)))
noncomputable def f79 (k : Nat) : (List ByteArray) × Int → Option (Int) := start79 (run (step79) k)
theorem st79 (G : List Item → St TT → Option (Int)) (p : J79) : evFrom (F79) G 3000 (td79 p) (em79 p) = step79 (fun q => G (td79 q) (em79 q)) p := by
  cases p <;> kernel_rfl
theorem en79 (G : List Item → St TT → Option (Int)) (a : (List ByteArray) × Int) : ev (F79) G 3000 [.code (bodyOf Try.f79)] (st0 ((Dl.cons (Dc.row UU 9) (Dl.one (Dc.int UU .i64))).en a)) = start79 (fun q => G (td79 q) (em79 q)) a := by
  obtain ⟨x0, x1⟩ := a
  kernel_rfl
theorem snd79 (k : Nat) : Snd Try.prog UU 79 (W (Dl.cons (Dc.row UU 9) (Dl.one (Dc.int UU .i64))) (f79 k) (Dc.int UU .i64)) := by
  refine snd_fn (F := F79) (fn := Try.f79) (body := bodyOf Try.f79) ⟨uu, tbl_ok trivial, mixed⟩ (by kernel_rfl) (by kernel_rfl) (by kernel_rfl) rfl rfl rfl (fun a => Nat.le_of_ble_eq_true rfl) ?_
  intro a r h
  refine ⟨3000, k, ?_⟩
  rw [en79, show (fun q => evJ (F79) 3000 k (td79 q) (em79 q)) = run (step79) k from funext fun q => evJ_run _ _ _ (st79) k q]
  exact h
noncomputable def F62 (g42 : (List Int) × Int → Option (Int)) (g78 : (List S147) × Int → Option (Int)) (g79 : (List ByteArray) × Int → Option (Int)) : Fn TT (Int) := ⟨Try.prog, UU, tbl [(42, W (Dl.cons (Dc.row UU 3) (Dl.one (Dc.int UU .i64))) g42 (Dc.int UU .i64)), (78, W (Dl.cons (Dc.row UU 147) (Dl.one (Dc.int UU .i64))) g78 (Dc.int UU .i64)), (79, W (Dl.cons (Dc.row UU 9) (Dl.one (Dc.int UU .i64))) g79 (Dc.int UU .i64))], Try.f62.ntmps, Try.f62.results.toList, [3], true, annOf [], finD (Dc.int UU .i64)⟩
noncomputable def start62 (g42 : (List Int) × Int → Option (Int)) (g78 : (List S147) × Int → Option (Int)) (g79 : (List ByteArray) × Int → Option (Int)) : S101 × Int → Option (Int)
  | (x0, x1) => (((g78 ((x0).f1, x1))).bind fun r0 => (cond (decide ((r0 : Int) < 0)) (some (-1)) (((g42 ((x0).f2, r0))).bind fun r1 => (cond (decide ((r1 : Int) < 0)) (some (-1)) (((g79 ((x0).f3, r1))).bind fun r2 => (cond (decide ((r2 : Int) < 0)) (some (-1)) (some r2)))))))
noncomputable def f62 (k : Nat) : S101 × Int → Option (Int) := start62 (f42 k) (f78 k) (f79 k)
theorem en62 (g42 : (List Int) × Int → Option (Int)) (g78 : (List S147) × Int → Option (Int)) (g79 : (List ByteArray) × Int → Option (Int)) (G : List Item → St TT → Option (Int)) (a : S101 × Int) : ev (F62 g42 g78 g79) G 3000 [.code (bodyOf Try.f62)] (st0 ((Dl.cons (Dc.agg uu 101) (Dl.one (Dc.int UU .i64))).en a)) = start62 g42 g78 g79 a := by
  obtain ⟨x0, x1⟩ := a
  kernel_rfl
theorem snd62 (k : Nat) : Snd Try.prog UU 62 (W (Dl.cons (Dc.agg uu 101) (Dl.one (Dc.int UU .i64))) (f62 k) (Dc.int UU .i64)) := by
  refine snd_fn (F := F62 (f42 k) (f78 k) (f79 k)) (fn := Try.f62) (body := bodyOf Try.f62) ⟨uu, tbl_ok ⟨snd42 k, snd78 k, snd79 k, trivial⟩, mixed⟩ (by kernel_rfl) (by kernel_rfl) (by kernel_rfl) rfl rfl rfl (fun a => Nat.le_of_ble_eq_true rfl) ?_
  intro a r h
  refine ⟨3000, k, ?_⟩
  rw [en62]
  exact h
noncomputable def F46 (g62 : S101 × Int → Option (Int)) : Fn TT (Int) := ⟨Try.prog, UU, tbl [(62, W (Dl.cons (Dc.agg uu 101) (Dl.one (Dc.int UU .i64))) g62 (Dc.int UU .i64))], Try.f46.ntmps, Try.f46.results.toList, [3], true, annOf [(5, [0, 1, 5])], finD (Dc.int UU .i64)⟩
inductive J46 where
  | j5 (x0 : (List S101)) (x1 : Int) (x2 : Int)
noncomputable def td46 : J46 → List Item
  | .j5 _ _ _ => fnd 5 (bodyOf Try.f46) []
noncomputable def em46 : J46 → St TT
  | .j5 x0 x1 x2 => ⟨[(0, .row 101 x0), (1, .v (.int .i64 x1)), (5, .v (.int .i64 x2))], [], 0⟩
noncomputable def step46 (g62 : S101 × Int → Option (Int)) (go : J46 → Option (Int)) : J46 → Option (Int)
  | .j5 x0 x1 x2 => (cond (decide ((x2 : Int) < (((x0).length : Nat) : Int))) (cond (decide ((0 : Int) ≤ x2)) (cond (decide ((x2 : Int) < (((x0).length : Nat) : Int))) (((g62 (((rd101 x0 x2)), x1))).bind fun r0 => (cond (decide ((r0 : Int) < 0)) (some (-1)) (go (.j5 x0 r0 (w64 (x2 + 1)))))) none) none) (some x1))
noncomputable def start46 (g62 : S101 × Int → Option (Int)) (go : J46 → Option (Int)) : (List S101) × Int → Option (Int)
  | (x0, x1) => (cond (decide (((w64 (x1 - (((x0).length : Nat) : Int))) : Int) < 0)) (some (-1)) (go (.j5 x0 (w64 (x1 - (((x0).length : Nat) : Int))) 0)))
noncomputable def f46 (k : Nat) : (List S101) × Int → Option (Int) := start46 (f62 k) (run (step46 (f62 k)) k)
theorem st46 (g62 : S101 × Int → Option (Int)) (G : List Item → St TT → Option (Int)) (p : J46) : evFrom (F46 g62) G 3000 (td46 p) (em46 p) = step46 g62 (fun q => G (td46 q) (em46 q)) p := by
  cases p <;> kernel_rfl
theorem en46 (g62 : S101 × Int → Option (Int)) (G : List Item → St TT → Option (Int)) (a : (List S101) × Int) : ev (F46 g62) G 3000 [.code (bodyOf Try.f46)] (st0 ((Dl.cons (Dc.row UU 101) (Dl.one (Dc.int UU .i64))).en a)) = start46 g62 (fun q => G (td46 q) (em46 q)) a := by
  obtain ⟨x0, x1⟩ := a
  kernel_rfl
theorem snd46 (k : Nat) : Snd Try.prog UU 46 (W (Dl.cons (Dc.row UU 101) (Dl.one (Dc.int UU .i64))) (f46 k) (Dc.int UU .i64)) := by
  refine snd_fn (F := F46 (f62 k)) (fn := Try.f46) (body := bodyOf Try.f46) ⟨uu, tbl_ok ⟨snd62 k, trivial⟩, mixed⟩ (by kernel_rfl) (by kernel_rfl) (by kernel_rfl) rfl rfl rfl (fun a => Nat.le_of_ble_eq_true rfl) ?_
  intro a r h
  refine ⟨3000, k, ?_⟩
  rw [en46, show (fun q => evJ (F46 (f62 k)) 3000 k (td46 q) (em46 q)) = run (step46 (f62 k)) k from funext fun q => evJ_run _ _ _ (st46 (f62 k)) k q]
  exact h
noncomputable def F21 (g46 : (List S101) × Int → Option (Int)) : Fn TT (Int) := ⟨Try.prog, UU, tbl [(46, W (Dl.cons (Dc.row UU 101) (Dl.one (Dc.int UU .i64))) g46 (Dc.int UU .i64))], Try.f21.ntmps, Try.f21.results.toList, [3], true, annOf [], finD (Dc.int UU .i64)⟩
noncomputable def start21 (g46 : (List S101) × Int → Option (Int)) : S45 × Int → Option (Int)
  | (x0, x1) => (((g46 ((x0).f0, x1))).bind fun r0 => (cond (decide ((r0 : Int) < 0)) (some (-1)) (some r0)))
noncomputable def f21 (k : Nat) : S45 × Int → Option (Int) := start21 (f46 k)
theorem en21 (g46 : (List S101) × Int → Option (Int)) (G : List Item → St TT → Option (Int)) (a : S45 × Int) : ev (F21 g46) G 3000 [.code (bodyOf Try.f21)] (st0 ((Dl.cons (Dc.agg uu 45) (Dl.one (Dc.int UU .i64))).en a)) = start21 g46 a := by
  obtain ⟨x0, x1⟩ := a
  kernel_rfl
theorem snd21 (k : Nat) : Snd Try.prog UU 21 (W (Dl.cons (Dc.agg uu 45) (Dl.one (Dc.int UU .i64))) (f21 k) (Dc.int UU .i64)) := by
  refine snd_fn (F := F21 (f46 k)) (fn := Try.f21) (body := bodyOf Try.f21) ⟨uu, tbl_ok ⟨snd46 k, trivial⟩, mixed⟩ (by kernel_rfl) (by kernel_rfl) (by kernel_rfl) rfl rfl rfl (fun a => Nat.le_of_ble_eq_true rfl) ?_
  intro a r h
  refine ⟨3000, k, ?_⟩
  rw [en21]
  exact h
noncomputable def F22 : Fn TT (Bool) := ⟨Try.prog, UU, tbl [], Try.f22.ntmps, Try.f22.results.toList, [4], true, annOf [(4, [2, 3, 5]), (10, [2, 3, 5, 6, 7]), (11, [2, 3, 5, 6, 7, 8]), (16, [2, 3, 5, 6, 7, 9]), (21, [2, 3, 5, 6, 7, 10])], finD (Dc.bool UU)⟩
inductive J22 where
  | j4 (x0 : Int) (x1 : (List S101)) (x2 : (List S101))
  | j10 (x0 : Int) (x1 : (List S101)) (x2 : (List S101)) (x3 : Bool) (x4 : (List S147)) (x5 : (List Int)) (x6 : (List ByteArray)) (x7 : Bool) (x8 : (List S147)) (x9 : (List Int)) (x10 : (List ByteArray))
  | j11 (x0 : Int) (x1 : Int) (x2 : (List S101)) (x3 : (List S101)) (x4 : Bool) (x5 : (List S147)) (x6 : (List Int)) (x7 : (List ByteArray)) (x8 : Bool) (x9 : (List S147)) (x10 : (List Int)) (x11 : (List ByteArray))
  | j16 (x0 : Int) (x1 : Int) (x2 : (List S101)) (x3 : (List S101)) (x4 : Bool) (x5 : (List S147)) (x6 : (List Int)) (x7 : (List ByteArray)) (x8 : Bool) (x9 : (List S147)) (x10 : (List Int)) (x11 : (List ByteArray))
  | j21 (x0 : Int) (x1 : Int) (x2 : (List S101)) (x3 : (List S101)) (x4 : Bool) (x5 : (List S147)) (x6 : (List Int)) (x7 : (List ByteArray)) (x8 : Bool) (x9 : (List S147)) (x10 : (List Int)) (x11 : (List ByteArray))
noncomputable def td22 : J22 → List Item
  | .j4 _ _ _ => fnd 4 (bodyOf Try.f22) []
  | .j10 _ _ _ _ _ _ _ _ _ _ _ => fnd 10 (bodyOf Try.f22) []
  | .j11 _ _ _ _ _ _ _ _ _ _ _ _ => fnd 11 (bodyOf Try.f22) []
  | .j16 _ _ _ _ _ _ _ _ _ _ _ _ => fnd 16 (bodyOf Try.f22) []
  | .j21 _ _ _ _ _ _ _ _ _ _ _ _ => fnd 21 (bodyOf Try.f22) []
noncomputable def em22 : J22 → St TT
  | .j4 x0 x1 x2 => ⟨[(2, .ptr 0 0), (3, .ptr 1 0), (5, .v (.int .i64 x0))], [(0, .cells 50 [.row 74 x1]), (1, .cells 50 [.row 74 x2])], 2⟩
  | .j10 x0 x1 x2 x3 x4 x5 x6 x7 x8 x9 x10 => ⟨[(2, .ptr 0 0), (3, .ptr 1 0), (5, .v (.int .i64 x0)), (6, .ptr 2 0), (7, .ptr 3 0)], [(0, .cells 50 [.row 74 x1]), (1, .cells 50 [.row 74 x2]), (2, .cells 74 [.v (.bool x3), .row 76 x4, .row 3 x5, .row 9 x6]), (3, .cells 74 [.v (.bool x7), .row 76 x8, .row 3 x9, .row 9 x10])], 4⟩
  | .j11 x0 x1 x2 x3 x4 x5 x6 x7 x8 x9 x10 x11 => ⟨[(2, .ptr 0 0), (3, .ptr 1 0), (5, .v (.int .i64 x0)), (6, .ptr 2 0), (7, .ptr 3 0), (8, .v (.int .i64 x1))], [(0, .cells 50 [.row 74 x2]), (1, .cells 50 [.row 74 x3]), (2, .cells 74 [.v (.bool x4), .row 76 x5, .row 3 x6, .row 9 x7]), (3, .cells 74 [.v (.bool x8), .row 76 x9, .row 3 x10, .row 9 x11])], 4⟩
  | .j16 x0 x1 x2 x3 x4 x5 x6 x7 x8 x9 x10 x11 => ⟨[(2, .ptr 0 0), (3, .ptr 1 0), (5, .v (.int .i64 x0)), (6, .ptr 2 0), (7, .ptr 3 0), (9, .v (.int .i64 x1))], [(0, .cells 50 [.row 74 x2]), (1, .cells 50 [.row 74 x3]), (2, .cells 74 [.v (.bool x4), .row 76 x5, .row 3 x6, .row 9 x7]), (3, .cells 74 [.v (.bool x8), .row 76 x9, .row 3 x10, .row 9 x11])], 4⟩
  | .j21 x0 x1 x2 x3 x4 x5 x6 x7 x8 x9 x10 x11 => ⟨[(2, .ptr 0 0), (3, .ptr 1 0), (5, .v (.int .i64 x0)), (6, .ptr 2 0), (7, .ptr 3 0), (10, .v (.int .i64 x1))], [(0, .cells 50 [.row 74 x2]), (1, .cells 50 [.row 74 x3]), (2, .cells 74 [.v (.bool x4), .row 76 x5, .row 3 x6, .row 9 x7]), (3, .cells 74 [.v (.bool x8), .row 76 x9, .row 3 x10, .row 9 x11])], 4⟩
noncomputable def step22 (go : J22 → Option (Bool)) : J22 → Option (Bool)
  | .j4 x0 x1 x2 => (cond (decide ((x0 : Int) < (((x1).length : Nat) : Int))) (cond (decide ((0 : Int) ≤ x0)) (cond (decide ((x0 : Int) < (((x1).length : Nat) : Int))) (cond (decide ((0 : Int) ≤ x0)) (cond (decide ((x0 : Int) < (((x2).length : Nat) : Int))) (cond (!(((rd74 x1 x0)).f0 == ((rd74 x2 x0)).f0)) (some false) (cond (((((((rd74 x1 x0)).f1).length : Nat) : Int) : Int) != (((((rd74 x2 x0)).f1).length : Nat) : Int)) (some false) (cond (((((((rd74 x1 x0)).f2).length : Nat) : Int) : Int) != (((((rd74 x2 x0)).f2).length : Nat) : Int)) (some false) (cond (((((((rd74 x1 x0)).f3).length : Nat) : Int) : Int) != (((((rd74 x2 x0)).f3).length : Nat) : Int)) (some false) (go (.j10 x0 x1 x2 ((rd74 x1 x0)).f0 ((rd74 x1 x0)).f1 ((rd74 x1 x0)).f2 ((rd74 x1 x0)).f3 ((rd74 x2 x0)).f0 ((rd74 x2 x0)).f1 ((rd74 x2 x0)).f2 ((rd74 x2 x0)).f3)))))) none) none) none) none) (some true))
  | .j10 x0 x1 x2 x3 x4 x5 x6 x7 x8 x9 x10 => (go (.j11 x0 0 x1 x2 x3 x4 x5 x6 x7 x8 x9 x10))
  | .j11 x0 x1 x2 x3 x4 x5 x6 x7 x8 x9 x10 x11 => (cond (decide ((x1 : Int) < (((x5).length : Nat) : Int))) (cond (decide ((0 : Int) ≤ x1)) (cond (decide ((x1 : Int) < (((x5).length : Nat) : Int))) (cond (decide ((0 : Int) ≤ x1)) (cond (decide ((x1 : Int) < (((x9).length : Nat) : Int))) (cond (!(((((rd76 x5 x1)).f0 : Int) == ((rd76 x9 x1)).f0) && (((((rd76 x5 x1)).f1 : Int) == ((rd76 x9 x1)).f1) && ((((rd76 x5 x1)).f2 == ((rd76 x9 x1)).f2) && ((((rd76 x5 x1)).f3 == ((rd76 x9 x1)).f3) && true))))) (some false) (go (.j11 x0 (w64 (x1 + 1)) x2 x3 x4 x5 x6 x7 x8 x9 x10 x11))) none) none) none) none) (go (.j16 x0 0 x2 x3 x4 x5 x6 x7 x8 x9 x10 x11)))
  | .j16 x0 x1 x2 x3 x4 x5 x6 x7 x8 x9 x10 x11 => (cond (decide ((x1 : Int) < (((x6).length : Nat) : Int))) (cond (decide ((0 : Int) ≤ x1)) (cond (decide ((x1 : Int) < (((x6).length : Nat) : Int))) (cond (decide ((0 : Int) ≤ x1)) (cond (decide ((x1 : Int) < (((x10).length : Nat) : Int))) (cond (((rd3 x6 x1) : Int) != (rd3 x10 x1)) (some false) (go (.j16 x0 (w64 (x1 + 1)) x2 x3 x4 x5 x6 x7 x8 x9 x10 x11))) none) none) none) none) (go (.j21 x0 0 x2 x3 x4 x5 x6 x7 x8 x9 x10 x11)))
  | .j21 x0 x1 x2 x3 x4 x5 x6 x7 x8 x9 x10 x11 => (cond (decide ((x1 : Int) < (((x7).length : Nat) : Int))) (cond (decide ((0 : Int) ≤ x1)) (cond (decide ((x1 : Int) < (((x7).length : Nat) : Int))) (cond (decide ((0 : Int) ≤ x1)) (cond (decide ((x1 : Int) < (((x11).length : Nat) : Int))) (cond (!(((rd9 x7 x1)).toList == ((rd9 x11 x1)).toList)) (some false) (go (.j21 x0 (w64 (x1 + 1)) x2 x3 x4 x5 x6 x7 x8 x9 x10 x11))) none) none) none) none) (go (.j4 (w64 (x0 + 1)) x2 x3)))
noncomputable def start22 (go : J22 → Option (Bool)) : S45 × S45 → Option (Bool)
  | (x0, x1) => (cond ((((((x0).f0).length : Nat) : Int) : Int) != ((((x1).f0).length : Nat) : Int)) (some false) (go (.j4 0 (x0).f0 (x1).f0)))
noncomputable def f22 (k : Nat) : S45 × S45 → Option (Bool) := start22 (run (step22) k)
theorem st22 (G : List Item → St TT → Option (Bool)) (p : J22) : evFrom (F22) G 3000 (td22 p) (em22 p) = step22 (fun q => G (td22 q) (em22 q)) p := by
  cases p <;> kernel_rfl
theorem en22 (G : List Item → St TT → Option (Bool)) (a : S45 × S45) : ev (F22) G 3000 [.code (bodyOf Try.f22)] (st0 ((Dl.cons (Dc.agg uu 50) (Dl.one (Dc.agg uu 50))).en a)) = start22 (fun q => G (td22 q) (em22 q)) a := by
  obtain ⟨x0, x1⟩ := a
  kernel_rfl
theorem snd22 (k : Nat) : Snd Try.prog UU 22 (W (Dl.cons (Dc.agg uu 50) (Dl.one (Dc.agg uu 50))) (f22 k) (Dc.bool UU)) := by
  refine snd_fn (F := F22) (fn := Try.f22) (body := bodyOf Try.f22) ⟨uu, tbl_ok trivial, mixed⟩ (by kernel_rfl) (by kernel_rfl) (by kernel_rfl) rfl rfl rfl (fun a => Nat.le_of_ble_eq_true rfl) ?_
  intro a r h
  refine ⟨3000, k, ?_⟩
  rw [en22, show (fun q => evJ (F22) 3000 k (td22 q) (em22 q)) = run (step22) k from funext fun q => evJ_run _ _ _ (st22) k q]
  exact h
noncomputable def F45 : Fn TT ((List Int)) := ⟨Try.prog, UU, tbl [], Try.f45.ntmps, Try.f45.results.toList, [26], true, annOf [(3, [0, 3, 4])], finD (Dc.row UU 3)⟩
inductive J45 where
  | j3 (x0 : (List Int)) (x1 : Int) (x2 : (List Int))
noncomputable def td45 : J45 → List Item
  | .j3 _ _ _ => fnd 3 (bodyOf Try.f45) []
noncomputable def em45 : J45 → St TT
  | .j3 x0 x1 x2 => ⟨[(0, .row 3 x0), (3, .own 0), (4, .v (.int .i64 x1))], [(0, .arr 3 x2)], 1⟩
noncomputable def step45 (go : J45 → Option ((List Int))) : J45 → Option ((List Int))
  | .j3 x0 x1 x2 => (cond (decide ((x1 : Int) < (((x0).length : Nat) : Int))) (cond (decide ((0 : Int) ≤ x1)) (cond (decide ((x1 : Int) < (((x0).length : Nat) : Int))) (cond (decide ((0 : Int) ≤ x1)) (cond (decide ((x1 : Int) < (((x2).length : Nat) : Int))) (cond (decide ((0 : Int) ≤ x1)) (cond (decide ((x1 : Int) < (((x2).length : Nat) : Int))) (go (.j3 x0 (w64 (x1 + 1)) (List.set x2 (x1).toNat (rd3 x0 x1)))) none) none) none) none) none) none) (some x2))
noncomputable def start45 (go : J45 → Option ((List Int))) : (List Int) → Option ((List Int))
  | x0 => (cond (decide (((8 * (((x0).length : Nat) : Int)) : Int) ≤ 140737488355328)) (cond (decide (((((x0).length : Nat) : Int) : Int) ≤ 140737488355328)) (go (.j3 x0 0 (List.replicate ((((x0).length : Nat) : Int)).toNat 0))) none) none)
noncomputable def f45 (k : Nat) : (List Int) → Option ((List Int)) := start45 (run (step45) k)
theorem st45 (G : List Item → St TT → Option ((List Int))) (p : J45) : evFrom (F45) G 3000 (td45 p) (em45 p) = step45 (fun q => G (td45 q) (em45 q)) p := by
  cases p <;> kernel_rfl
theorem en45 (G : List Item → St TT → Option ((List Int))) (a : (List Int)) : ev (F45) G 3000 [.code (bodyOf Try.f45)] (st0 ((Dl.one (Dc.row UU 3)).en a)) = start45 (fun q => G (td45 q) (em45 q)) a := by
  kernel_rfl
theorem snd45 (k : Nat) : Snd Try.prog UU 45 (W (Dl.one (Dc.row UU 3)) (f45 k) (Dc.row UU 3)) := by
  refine snd_fn (F := F45) (fn := Try.f45) (body := bodyOf Try.f45) ⟨uu, tbl_ok trivial, mixed⟩ (by kernel_rfl) (by kernel_rfl) (by kernel_rfl) rfl rfl rfl (fun a => Nat.le_of_ble_eq_true rfl) ?_
  intro a r h
  refine ⟨3000, k, ?_⟩
  rw [en45, show (fun q => evJ (F45) 3000 k (td45 q) (em45 q)) = run (step45) k from funext fun q => evJ_run _ _ _ (st45) k q]
  exact h
noncomputable def F103 : Fn TT (S147) := ⟨Try.prog, UU, tbl [], Try.f103.ntmps, Try.f103.results.toList, [76], true, annOf [], finD (Dc.agg uu 76)⟩
noncomputable def start103 : S147 → Option (S147)
  | x0 => (some (x0))
noncomputable def f103 (k : Nat) : S147 → Option (S147) := start103
theorem en103 (G : List Item → St TT → Option (S147)) (a : S147) : ev (F103) G 3000 [.code (bodyOf Try.f103)] (st0 ((Dl.one (Dc.agg uu 147)).en a)) = start103 a := by
  kernel_rfl
theorem snd103 (k : Nat) : Snd Try.prog UU 103 (W (Dl.one (Dc.agg uu 147)) (f103 k) (Dc.agg uu 76)) := by
  refine snd_fn (F := F103) (fn := Try.f103) (body := bodyOf Try.f103) ⟨uu, tbl_ok trivial, mixed⟩ (by kernel_rfl) (by kernel_rfl) (by kernel_rfl) rfl rfl rfl (fun a => Nat.le_of_ble_eq_true rfl) ?_
  intro a r h
  refine ⟨3000, k, ?_⟩
  rw [en103]
  exact h
noncomputable def F80 (g103 : S147 → Option (S147)) : Fn TT ((List S147)) := ⟨Try.prog, UU, tbl [(103, W (Dl.one (Dc.agg uu 147)) g103 (Dc.agg uu 76))], Try.f80.ntmps, Try.f80.results.toList, [71], true, annOf [(3, [0, 3, 4])], finD (Dc.row UU 76)⟩
inductive J80 where
  | j3 (x0 : (List S147)) (x1 : Int) (x2 : (List S147))
noncomputable def td80 : J80 → List Item
  | .j3 _ _ _ => fnd 3 (bodyOf Try.f80) []
noncomputable def em80 : J80 → St TT
  | .j3 x0 x1 x2 => ⟨[(0, .row 147 x0), (3, .own 0), (4, .v (.int .i64 x1))], [(0, .arr 76 x2)], 1⟩
noncomputable def step80 (g103 : S147 → Option (S147)) (go : J80 → Option ((List S147))) : J80 → Option ((List S147))
  | .j3 x0 x1 x2 => (cond (decide ((x1 : Int) < (((x0).length : Nat) : Int))) (cond (decide ((0 : Int) ≤ x1)) (cond (decide ((x1 : Int) < (((x0).length : Nat) : Int))) (((g103 ((rd147 x0 x1)))).bind fun r0 => (cond (decide ((0 : Int) ≤ x1)) (cond (decide ((x1 : Int) < (((x2).length : Nat) : Int))) (cond (decide ((0 : Int) ≤ x1)) (cond (decide ((x1 : Int) < (((x2).length : Nat) : Int))) (go (.j3 x0 (w64 (x1 + 1)) (List.set x2 (x1).toNat (r0)))) none) none) none) none)) none) none) (some x2))
noncomputable def start80 (g103 : S147 → Option (S147)) (go : J80 → Option ((List S147))) : (List S147) → Option ((List S147))
  | x0 => (cond (decide (((24 * (((x0).length : Nat) : Int)) : Int) ≤ 140737488355328)) (cond (decide (((((x0).length : Nat) : Int) : Int) ≤ 140737488355328)) (go (.j3 x0 0 (List.replicate ((((x0).length : Nat) : Int)).toNat (⟨0, 0, false, false⟩ : S147)))) none) none)
noncomputable def f80 (k : Nat) : (List S147) → Option ((List S147)) := start80 (f103 k) (run (step80 (f103 k)) k)
theorem st80 (g103 : S147 → Option (S147)) (G : List Item → St TT → Option ((List S147))) (p : J80) : evFrom (F80 g103) G 3000 (td80 p) (em80 p) = step80 g103 (fun q => G (td80 q) (em80 q)) p := by
  cases p <;> kernel_rfl
theorem en80 (g103 : S147 → Option (S147)) (G : List Item → St TT → Option ((List S147))) (a : (List S147)) : ev (F80 g103) G 3000 [.code (bodyOf Try.f80)] (st0 ((Dl.one (Dc.row UU 147)).en a)) = start80 g103 (fun q => G (td80 q) (em80 q)) a := by
  kernel_rfl
theorem snd80 (k : Nat) : Snd Try.prog UU 80 (W (Dl.one (Dc.row UU 147)) (f80 k) (Dc.row UU 76)) := by
  refine snd_fn (F := F80 (f103 k)) (fn := Try.f80) (body := bodyOf Try.f80) ⟨uu, tbl_ok ⟨snd103 k, trivial⟩, mixed⟩ (by kernel_rfl) (by kernel_rfl) (by kernel_rfl) rfl rfl rfl (fun a => Nat.le_of_ble_eq_true rfl) ?_
  intro a r h
  refine ⟨3000, k, ?_⟩
  rw [en80, show (fun q => evJ (F80 (f103 k)) 3000 k (td80 q) (em80 q)) = run (step80 (f103 k)) k from funext fun q => evJ_run _ _ _ (st80 (f103 k)) k q]
  exact h
noncomputable def F81 : Fn TT ((List ByteArray)) := ⟨Try.prog, UU, tbl [], Try.f81.ntmps, Try.f81.results.toList, [72], true, annOf [(3, [0, 3, 4])], finD (Dc.row UU 9)⟩
inductive J81 where
  | j3 (x0 : (List ByteArray)) (x1 : Int) (x2 : (List ByteArray))
noncomputable def td81 : J81 → List Item
  | .j3 _ _ _ => fnd 3 (bodyOf Try.f81) []
noncomputable def em81 : J81 → St TT
  | .j3 x0 x1 x2 => ⟨[(0, .row 9 x0), (3, .own 0), (4, .v (.int .i64 x1))], [(0, .arr 9 x2)], 1⟩
noncomputable def step81 (go : J81 → Option ((List ByteArray))) : J81 → Option ((List ByteArray))
  | .j3 x0 x1 x2 => (cond (decide ((x1 : Int) < (((x0).length : Nat) : Int))) (cond (decide ((0 : Int) ≤ x1)) (cond (decide ((x1 : Int) < (((x0).length : Nat) : Int))) (cond (decide ((0 : Int) ≤ x1)) (cond (decide ((x1 : Int) < (((x2).length : Nat) : Int))) (cond (decide ((0 : Int) ≤ x1)) (cond (decide ((x1 : Int) < (((x2).length : Nat) : Int))) (go (.j3 x0 (w64 (x1 + 1)) (List.set x2 (x1).toNat (rd9 x0 x1)))) none) none) none) none) none) none) (some x2))
noncomputable def start81 (go : J81 → Option ((List ByteArray))) : (List ByteArray) → Option ((List ByteArray))
  | x0 => (cond (decide (((16 * (((x0).length : Nat) : Int)) : Int) ≤ 140737488355328)) (cond (decide (((((x0).length : Nat) : Int) : Int) ≤ 140737488355328)) (go (.j3 x0 0 (List.replicate ((((x0).length : Nat) : Int)).toNat (⟨#[]⟩ : ByteArray)))) none) none)
noncomputable def f81 (k : Nat) : (List ByteArray) → Option ((List ByteArray)) := start81 (run (step81) k)
theorem st81 (G : List Item → St TT → Option ((List ByteArray))) (p : J81) : evFrom (F81) G 3000 (td81 p) (em81 p) = step81 (fun q => G (td81 q) (em81 q)) p := by
  cases p <;> kernel_rfl
theorem en81 (G : List Item → St TT → Option ((List ByteArray))) (a : (List ByteArray)) : ev (F81) G 3000 [.code (bodyOf Try.f81)] (st0 ((Dl.one (Dc.row UU 9)).en a)) = start81 (fun q => G (td81 q) (em81 q)) a := by
  kernel_rfl
theorem snd81 (k : Nat) : Snd Try.prog UU 81 (W (Dl.one (Dc.row UU 9)) (f81 k) (Dc.row UU 9)) := by
  refine snd_fn (F := F81) (fn := Try.f81) (body := bodyOf Try.f81) ⟨uu, tbl_ok trivial, mixed⟩ (by kernel_rfl) (by kernel_rfl) (by kernel_rfl) rfl rfl rfl (fun a => Nat.le_of_ble_eq_true rfl) ?_
  intro a r h
  refine ⟨3000, k, ?_⟩
  rw [en81, show (fun q => evJ (F81) 3000 k (td81 q) (em81 q)) = run (step81) k from funext fun q => evJ_run _ _ _ (st81) k q]
  exact h
noncomputable def F63 (g45 : (List Int) → Option ((List Int))) (g80 : (List S147) → Option ((List S147))) (g81 : (List ByteArray) → Option ((List ByteArray))) : Fn TT (S101) := ⟨Try.prog, UU, tbl [(45, W (Dl.one (Dc.row UU 3)) g45 (Dc.row UU 3)), (80, W (Dl.one (Dc.row UU 147)) g80 (Dc.row UU 76)), (81, W (Dl.one (Dc.row UU 9)) g81 (Dc.row UU 9))], Try.f63.ntmps, Try.f63.results.toList, [74], true, annOf [], finD (Dc.agg uu 74)⟩
noncomputable def start63 (g45 : (List Int) → Option ((List Int))) (g80 : (List S147) → Option ((List S147))) (g81 : (List ByteArray) → Option ((List ByteArray))) : S101 → Option (S101)
  | x0 => (((g80 (x0).f1)).bind fun r0 => (((g45 (x0).f2)).bind fun r1 => (((g81 (x0).f3)).bind fun r2 => (some (⟨(x0).f0, r0, r1, r2⟩ : S101)))))
noncomputable def f63 (k : Nat) : S101 → Option (S101) := start63 (f45 k) (f80 k) (f81 k)
theorem en63 (g45 : (List Int) → Option ((List Int))) (g80 : (List S147) → Option ((List S147))) (g81 : (List ByteArray) → Option ((List ByteArray))) (G : List Item → St TT → Option (S101)) (a : S101) : ev (F63 g45 g80 g81) G 3000 [.code (bodyOf Try.f63)] (st0 ((Dl.one (Dc.agg uu 101)).en a)) = start63 g45 g80 g81 a := by
  kernel_rfl
theorem snd63 (k : Nat) : Snd Try.prog UU 63 (W (Dl.one (Dc.agg uu 101)) (f63 k) (Dc.agg uu 74)) := by
  refine snd_fn (F := F63 (f45 k) (f80 k) (f81 k)) (fn := Try.f63) (body := bodyOf Try.f63) ⟨uu, tbl_ok ⟨snd45 k, snd80 k, snd81 k, trivial⟩, mixed⟩ (by kernel_rfl) (by kernel_rfl) (by kernel_rfl) rfl rfl rfl (fun a => Nat.le_of_ble_eq_true rfl) ?_
  intro a r h
  refine ⟨3000, k, ?_⟩
  rw [en63]
  exact h
noncomputable def F47 (g63 : S101 → Option (S101)) : Fn TT ((List S101)) := ⟨Try.prog, UU, tbl [(63, W (Dl.one (Dc.agg uu 101)) g63 (Dc.agg uu 74))], Try.f47.ntmps, Try.f47.results.toList, [48], true, annOf [(3, [0, 3, 4])], finD (Dc.row UU 74)⟩
inductive J47 where
  | j3 (x0 : (List S101)) (x1 : Int) (x2 : (List S101))
noncomputable def td47 : J47 → List Item
  | .j3 _ _ _ => fnd 3 (bodyOf Try.f47) []
noncomputable def em47 : J47 → St TT
  | .j3 x0 x1 x2 => ⟨[(0, .row 101 x0), (3, .own 0), (4, .v (.int .i64 x1))], [(0, .arr 74 x2)], 1⟩
noncomputable def step47 (g63 : S101 → Option (S101)) (go : J47 → Option ((List S101))) : J47 → Option ((List S101))
  | .j3 x0 x1 x2 => (cond (decide ((x1 : Int) < (((x0).length : Nat) : Int))) (cond (decide ((0 : Int) ≤ x1)) (cond (decide ((x1 : Int) < (((x0).length : Nat) : Int))) (((g63 ((rd101 x0 x1)))).bind fun r0 => (cond (decide ((0 : Int) ≤ x1)) (cond (decide ((x1 : Int) < (((x2).length : Nat) : Int))) (cond (decide ((0 : Int) ≤ x1)) (cond (decide ((x1 : Int) < (((x2).length : Nat) : Int))) (go (.j3 x0 (w64 (x1 + 1)) (List.set x2 (x1).toNat (r0)))) none) none) none) none)) none) none) (some x2))
noncomputable def start47 (g63 : S101 → Option (S101)) (go : J47 → Option ((List S101))) : (List S101) → Option ((List S101))
  | x0 => (cond (decide (((80 * (((x0).length : Nat) : Int)) : Int) ≤ 140737488355328)) (cond (decide (((((x0).length : Nat) : Int) : Int) ≤ 140737488355328)) (go (.j3 x0 0 (List.replicate ((((x0).length : Nat) : Int)).toNat (⟨false, ([] : List S147), ([] : List Int), ([] : List ByteArray)⟩ : S101)))) none) none)
noncomputable def f47 (k : Nat) : (List S101) → Option ((List S101)) := start47 (f63 k) (run (step47 (f63 k)) k)
theorem st47 (g63 : S101 → Option (S101)) (G : List Item → St TT → Option ((List S101))) (p : J47) : evFrom (F47 g63) G 3000 (td47 p) (em47 p) = step47 g63 (fun q => G (td47 q) (em47 q)) p := by
  cases p <;> kernel_rfl
theorem en47 (g63 : S101 → Option (S101)) (G : List Item → St TT → Option ((List S101))) (a : (List S101)) : ev (F47 g63) G 3000 [.code (bodyOf Try.f47)] (st0 ((Dl.one (Dc.row UU 101)).en a)) = start47 g63 (fun q => G (td47 q) (em47 q)) a := by
  kernel_rfl
theorem snd47 (k : Nat) : Snd Try.prog UU 47 (W (Dl.one (Dc.row UU 101)) (f47 k) (Dc.row UU 74)) := by
  refine snd_fn (F := F47 (f63 k)) (fn := Try.f47) (body := bodyOf Try.f47) ⟨uu, tbl_ok ⟨snd63 k, trivial⟩, mixed⟩ (by kernel_rfl) (by kernel_rfl) (by kernel_rfl) rfl rfl rfl (fun a => Nat.le_of_ble_eq_true rfl) ?_
  intro a r h
  refine ⟨3000, k, ?_⟩
  rw [en47, show (fun q => evJ (F47 (f63 k)) 3000 k (td47 q) (em47 q)) = run (step47 (f63 k)) k from funext fun q => evJ_run _ _ _ (st47 (f63 k)) k q]
  exact h
noncomputable def F23 (g47 : (List S101) → Option ((List S101))) : Fn TT (S45) := ⟨Try.prog, UU, tbl [(47, W (Dl.one (Dc.row UU 101)) g47 (Dc.row UU 74))], Try.f23.ntmps, Try.f23.results.toList, [50], true, annOf [], finD (Dc.agg uu 50)⟩
noncomputable def start23 (g47 : (List S101) → Option ((List S101))) : S45 → Option (S45)
  | x0 => (((g47 (x0).f0)).bind fun r0 => (some (⟨r0⟩ : S45)))
noncomputable def f23 (k : Nat) : S45 → Option (S45) := start23 (f47 k)
theorem en23 (g47 : (List S101) → Option ((List S101))) (G : List Item → St TT → Option (S45)) (a : S45) : ev (F23 g47) G 3000 [.code (bodyOf Try.f23)] (st0 ((Dl.one (Dc.agg uu 45)).en a)) = start23 g47 a := by
  kernel_rfl
theorem snd23 (k : Nat) : Snd Try.prog UU 23 (W (Dl.one (Dc.agg uu 45)) (f23 k) (Dc.agg uu 50)) := by
  refine snd_fn (F := F23 (f47 k)) (fn := Try.f23) (body := bodyOf Try.f23) ⟨uu, tbl_ok ⟨snd47 k, trivial⟩, mixed⟩ (by kernel_rfl) (by kernel_rfl) (by kernel_rfl) rfl rfl rfl (fun a => Nat.le_of_ble_eq_true rfl) ?_
  intro a r h
  refine ⟨3000, k, ?_⟩
  rw [en23]
  exact h
noncomputable def F50 : Fn TT (Bool) := ⟨Try.prog, UU, tbl [], Try.f50.ntmps, Try.f50.results.toList, [4], true, annOf [(4, [0, 1, 12, 13])], finD (Dc.bool UU)⟩
inductive J50 where
  | j4 (x0 : (List S147)) (x1 : (List S147)) (x2 : Int) (x3 : Int)
noncomputable def td50 : J50 → List Item
  | .j4 _ _ _ _ => fnd 4 (bodyOf Try.f50) []
noncomputable def em50 : J50 → St TT
  | .j4 x0 x1 x2 x3 => ⟨[(0, .row 76 x0), (1, .row 76 x1), (12, .v (.int .i64 x2)), (13, .v (.int .i64 x3))], [], 0⟩
noncomputable def step50 (go : J50 → Option (Bool)) : J50 → Option (Bool)
  | .j4 x0 x1 x2 x3 => (cond (decide ((x3 : Int) < x2)) (cond (decide ((0 : Int) ≤ x3)) (cond (decide ((x3 : Int) < (((x0).length : Nat) : Int))) (cond (decide ((0 : Int) ≤ x3)) (cond (decide ((x3 : Int) < (((x1).length : Nat) : Int))) (cond (!(((((rd76 x0 x3)).f0 : Int) == ((rd76 x1 x3)).f0) && (((((rd76 x0 x3)).f1 : Int) == ((rd76 x1 x3)).f1) && ((((rd76 x0 x3)).f2 == ((rd76 x1 x3)).f2) && ((((rd76 x0 x3)).f3 == ((rd76 x1 x3)).f3) && true))))) (some false) (go (.j4 x0 x1 x2 (w64 (x3 + 1))))) none) none) none) none) (some true))
noncomputable def start50 (go : J50 → Option (Bool)) : (List S147) × (List S147) → Option (Bool)
  | (x0, x1) => (cond (((((x0).length : Nat) : Int) : Int) != (((x1).length : Nat) : Int)) (some false) (go (.j4 x0 x1 (((x0).length : Nat) : Int) 0)))
noncomputable def f50 (k : Nat) : (List S147) × (List S147) → Option (Bool) := start50 (run (step50) k)
theorem st50 (G : List Item → St TT → Option (Bool)) (p : J50) : evFrom (F50) G 3000 (td50 p) (em50 p) = step50 (fun q => G (td50 q) (em50 q)) p := by
  cases p <;> kernel_rfl
theorem en50 (G : List Item → St TT → Option (Bool)) (a : (List S147) × (List S147)) : ev (F50) G 3000 [.code (bodyOf Try.f50)] (st0 ((Dl.cons (Dc.row UU 76) (Dl.one (Dc.row UU 76))).en a)) = start50 (fun q => G (td50 q) (em50 q)) a := by
  obtain ⟨x0, x1⟩ := a
  kernel_rfl
theorem snd50 (k : Nat) : Snd Try.prog UU 50 (W (Dl.cons (Dc.row UU 76) (Dl.one (Dc.row UU 76))) (f50 k) (Dc.bool UU)) := by
  refine snd_fn (F := F50) (fn := Try.f50) (body := bodyOf Try.f50) ⟨uu, tbl_ok trivial, mixed⟩ (by kernel_rfl) (by kernel_rfl) (by kernel_rfl) rfl rfl rfl (fun a => Nat.le_of_ble_eq_true rfl) ?_
  intro a r h
  refine ⟨3000, k, ?_⟩
  rw [en50, show (fun q => evJ (F50) 3000 k (td50 q) (em50 q)) = run (step50) k from funext fun q => evJ_run _ _ _ (st50) k q]
  exact h
noncomputable def F51 : Fn TT (Bool) := ⟨Try.prog, UU, tbl [], Try.f51.ntmps, Try.f51.results.toList, [4], true, annOf [(4, [0, 1, 12, 13])], finD (Dc.bool UU)⟩
inductive J51 where
  | j4 (x0 : (List Int)) (x1 : (List Int)) (x2 : Int) (x3 : Int)
noncomputable def td51 : J51 → List Item
  | .j4 _ _ _ _ => fnd 4 (bodyOf Try.f51) []
noncomputable def em51 : J51 → St TT
  | .j4 x0 x1 x2 x3 => ⟨[(0, .row 3 x0), (1, .row 3 x1), (12, .v (.int .i64 x2)), (13, .v (.int .i64 x3))], [], 0⟩
noncomputable def step51 (go : J51 → Option (Bool)) : J51 → Option (Bool)
  | .j4 x0 x1 x2 x3 => (cond (decide ((x3 : Int) < x2)) (cond (decide ((0 : Int) ≤ x3)) (cond (decide ((x3 : Int) < (((x0).length : Nat) : Int))) (cond (decide ((0 : Int) ≤ x3)) (cond (decide ((x3 : Int) < (((x1).length : Nat) : Int))) (cond (((rd3 x0 x3) : Int) != (rd3 x1 x3)) (some false) (go (.j4 x0 x1 x2 (w64 (x3 + 1))))) none) none) none) none) (some true))
noncomputable def start51 (go : J51 → Option (Bool)) : (List Int) × (List Int) → Option (Bool)
  | (x0, x1) => (cond (((((x0).length : Nat) : Int) : Int) != (((x1).length : Nat) : Int)) (some false) (go (.j4 x0 x1 (((x0).length : Nat) : Int) 0)))
noncomputable def f51 (k : Nat) : (List Int) × (List Int) → Option (Bool) := start51 (run (step51) k)
theorem st51 (G : List Item → St TT → Option (Bool)) (p : J51) : evFrom (F51) G 3000 (td51 p) (em51 p) = step51 (fun q => G (td51 q) (em51 q)) p := by
  cases p <;> kernel_rfl
theorem en51 (G : List Item → St TT → Option (Bool)) (a : (List Int) × (List Int)) : ev (F51) G 3000 [.code (bodyOf Try.f51)] (st0 ((Dl.cons (Dc.row UU 3) (Dl.one (Dc.row UU 3))).en a)) = start51 (fun q => G (td51 q) (em51 q)) a := by
  obtain ⟨x0, x1⟩ := a
  kernel_rfl
theorem snd51 (k : Nat) : Snd Try.prog UU 51 (W (Dl.cons (Dc.row UU 3) (Dl.one (Dc.row UU 3))) (f51 k) (Dc.bool UU)) := by
  refine snd_fn (F := F51) (fn := Try.f51) (body := bodyOf Try.f51) ⟨uu, tbl_ok trivial, mixed⟩ (by kernel_rfl) (by kernel_rfl) (by kernel_rfl) rfl rfl rfl (fun a => Nat.le_of_ble_eq_true rfl) ?_
  intro a r h
  refine ⟨3000, k, ?_⟩
  rw [en51, show (fun q => evJ (F51) 3000 k (td51 q) (em51 q)) = run (step51) k from funext fun q => evJ_run _ _ _ (st51) k q]
  exact h
noncomputable def F52 : Fn TT (Bool) := ⟨Try.prog, UU, tbl [], Try.f52.ntmps, Try.f52.results.toList, [4], true, annOf [(4, [0, 1, 12, 13])], finD (Dc.bool UU)⟩
inductive J52 where
  | j4 (x0 : (List ByteArray)) (x1 : (List ByteArray)) (x2 : Int) (x3 : Int)
noncomputable def td52 : J52 → List Item
  | .j4 _ _ _ _ => fnd 4 (bodyOf Try.f52) []
noncomputable def em52 : J52 → St TT
  | .j4 x0 x1 x2 x3 => ⟨[(0, .row 9 x0), (1, .row 9 x1), (12, .v (.int .i64 x2)), (13, .v (.int .i64 x3))], [], 0⟩
noncomputable def step52 (go : J52 → Option (Bool)) : J52 → Option (Bool)
  | .j4 x0 x1 x2 x3 => (cond (decide ((x3 : Int) < x2)) (cond (decide ((0 : Int) ≤ x3)) (cond (decide ((x3 : Int) < (((x0).length : Nat) : Int))) (cond (decide ((0 : Int) ≤ x3)) (cond (decide ((x3 : Int) < (((x1).length : Nat) : Int))) (cond (!(((rd9 x0 x3)).toList == ((rd9 x1 x3)).toList)) (some false) (go (.j4 x0 x1 x2 (w64 (x3 + 1))))) none) none) none) none) (some true))
noncomputable def start52 (go : J52 → Option (Bool)) : (List ByteArray) × (List ByteArray) → Option (Bool)
  | (x0, x1) => (cond (((((x0).length : Nat) : Int) : Int) != (((x1).length : Nat) : Int)) (some false) (go (.j4 x0 x1 (((x0).length : Nat) : Int) 0)))
noncomputable def f52 (k : Nat) : (List ByteArray) × (List ByteArray) → Option (Bool) := start52 (run (step52) k)
theorem st52 (G : List Item → St TT → Option (Bool)) (p : J52) : evFrom (F52) G 3000 (td52 p) (em52 p) = step52 (fun q => G (td52 q) (em52 q)) p := by
  cases p <;> kernel_rfl
theorem en52 (G : List Item → St TT → Option (Bool)) (a : (List ByteArray) × (List ByteArray)) : ev (F52) G 3000 [.code (bodyOf Try.f52)] (st0 ((Dl.cons (Dc.row UU 9) (Dl.one (Dc.row UU 9))).en a)) = start52 (fun q => G (td52 q) (em52 q)) a := by
  obtain ⟨x0, x1⟩ := a
  kernel_rfl
theorem snd52 (k : Nat) : Snd Try.prog UU 52 (W (Dl.cons (Dc.row UU 9) (Dl.one (Dc.row UU 9))) (f52 k) (Dc.bool UU)) := by
  refine snd_fn (F := F52) (fn := Try.f52) (body := bodyOf Try.f52) ⟨uu, tbl_ok trivial, mixed⟩ (by kernel_rfl) (by kernel_rfl) (by kernel_rfl) rfl rfl rfl (fun a => Nat.le_of_ble_eq_true rfl) ?_
  intro a r h
  refine ⟨3000, k, ?_⟩
  rw [en52, show (fun q => evJ (F52) 3000 k (td52 q) (em52 q)) = run (step52) k from funext fun q => evJ_run _ _ _ (st52) k q]
  exact h
noncomputable def F49 (g50 : (List S147) × (List S147) → Option (Bool)) (g51 : (List Int) × (List Int) → Option (Bool)) (g52 : (List ByteArray) × (List ByteArray) → Option (Bool)) : Fn TT (Bool) := ⟨Try.prog, UU, tbl [(50, W (Dl.cons (Dc.row UU 76) (Dl.one (Dc.row UU 76))) g50 (Dc.bool UU)), (51, W (Dl.cons (Dc.row UU 3) (Dl.one (Dc.row UU 3))) g51 (Dc.bool UU)), (52, W (Dl.cons (Dc.row UU 9) (Dl.one (Dc.row UU 9))) g52 (Dc.bool UU))], Try.f49.ntmps, Try.f49.results.toList, [4], true, annOf [], finD (Dc.bool UU)⟩
noncomputable def start49 (g50 : (List S147) × (List S147) → Option (Bool)) (g51 : (List Int) × (List Int) → Option (Bool)) (g52 : (List ByteArray) × (List ByteArray) → Option (Bool)) : S101 × S101 → Option (Bool)
  | (x0, x1) => (cond ((x0).f0 == (x1).f0) (((g50 ((x0).f1, (x1).f1))).bind fun r0 => (cond r0 (((g51 ((x0).f2, (x1).f2))).bind fun r1 => (cond r1 (((g52 ((x0).f3, (x1).f3))).bind fun r2 => (some r2)) (some false))) (some false))) (some false))
noncomputable def f49 (k : Nat) : S101 × S101 → Option (Bool) := start49 (f50 k) (f51 k) (f52 k)
theorem en49 (g50 : (List S147) × (List S147) → Option (Bool)) (g51 : (List Int) × (List Int) → Option (Bool)) (g52 : (List ByteArray) × (List ByteArray) → Option (Bool)) (G : List Item → St TT → Option (Bool)) (a : S101 × S101) : ev (F49 g50 g51 g52) G 3000 [.code (bodyOf Try.f49)] (st0 ((Dl.cons (Dc.agg uu 74) (Dl.one (Dc.agg uu 74))).en a)) = start49 g50 g51 g52 a := by
  obtain ⟨x0, x1⟩ := a
  kernel_rfl
theorem snd49 (k : Nat) : Snd Try.prog UU 49 (W (Dl.cons (Dc.agg uu 74) (Dl.one (Dc.agg uu 74))) (f49 k) (Dc.bool UU)) := by
  refine snd_fn (F := F49 (f50 k) (f51 k) (f52 k)) (fn := Try.f49) (body := bodyOf Try.f49) ⟨uu, tbl_ok ⟨snd50 k, snd51 k, snd52 k, trivial⟩, mixed⟩ (by kernel_rfl) (by kernel_rfl) (by kernel_rfl) rfl rfl rfl (fun a => Nat.le_of_ble_eq_true rfl) ?_
  intro a r h
  refine ⟨3000, k, ?_⟩
  rw [en49]
  exact h
noncomputable def F48 (g49 : S101 × S101 → Option (Bool)) : Fn TT (Bool) := ⟨Try.prog, UU, tbl [(49, W (Dl.cons (Dc.agg uu 74) (Dl.one (Dc.agg uu 74))) g49 (Dc.bool UU))], Try.f48.ntmps, Try.f48.results.toList, [4], true, annOf [(4, [1, 2, 15, 16, 17])], finD (Dc.bool UU)⟩
inductive J48 where
  | j4 (x0 : (List S101)) (x1 : (List S101)) (x2 : Int) (x3 : Int)
noncomputable def td48 : J48 → List Item
  | .j4 _ _ _ _ => fnd 4 (bodyOf Try.f48) []
noncomputable def em48 : J48 → St TT
  | .j4 x0 x1 x2 x3 => ⟨[(1, .row 74 x0), (2, .v (.func (.func 49) #[] #[])), (15, .row 74 x1), (16, .v (.int .i64 x2)), (17, .v (.int .i64 x3))], [], 0⟩
noncomputable def step48 (g49 : S101 × S101 → Option (Bool)) (go : J48 → Option (Bool)) : J48 → Option (Bool)
  | .j4 x0 x1 x2 x3 => (cond (decide ((x3 : Int) < x2)) (cond (decide ((0 : Int) ≤ x3)) (cond (decide ((x3 : Int) < (((x1).length : Nat) : Int))) (cond (decide ((0 : Int) ≤ x3)) (cond (decide ((x3 : Int) < (((x0).length : Nat) : Int))) (((g49 (((rd74 x1 x3)), ((rd74 x0 x3))))).bind fun r0 => (cond (!r0) (some false) (go (.j4 x0 x1 x2 (w64 (x3 + 1)))))) none) none) none) none) (some true))
noncomputable def start48 (g49 : S101 × S101 → Option (Bool)) (go : J48 → Option (Bool)) : (List S101) × (List S101) × Unit → Option (Bool)
  | (x0, x1, x2) => (cond (((((x0).length : Nat) : Int) : Int) != (((x1).length : Nat) : Int)) (some false) (go (.j4 x1 x0 (((x0).length : Nat) : Int) 0)))
noncomputable def f48 (k : Nat) : (List S101) × (List S101) × Unit → Option (Bool) := start48 (f49 k) (run (step48 (f49 k)) k)
theorem st48 (g49 : S101 × S101 → Option (Bool)) (G : List Item → St TT → Option (Bool)) (p : J48) : evFrom (F48 g49) G 3000 (td48 p) (em48 p) = step48 g49 (fun q => G (td48 q) (em48 q)) p := by
  cases p <;> kernel_rfl
theorem en48 (g49 : S101 × S101 → Option (Bool)) (G : List Item → St TT → Option (Bool)) (a : (List S101) × (List S101) × Unit) : ev (F48 g49) G 3000 [.code (bodyOf Try.f48)] (st0 ((Dl.cons (Dc.row UU 74) (Dl.cons (Dc.row UU 74) (Dl.one (Dc.fn UU 49)))).en a)) = start48 g49 (fun q => G (td48 q) (em48 q)) a := by
  obtain ⟨x0, x1, x2⟩ := a
  kernel_rfl
theorem snd48 (k : Nat) : Snd Try.prog UU 48 (W (Dl.cons (Dc.row UU 74) (Dl.cons (Dc.row UU 74) (Dl.one (Dc.fn UU 49)))) (f48 k) (Dc.bool UU)) := by
  refine snd_fn (F := F48 (f49 k)) (fn := Try.f48) (body := bodyOf Try.f48) ⟨uu, tbl_ok ⟨snd49 k, trivial⟩, mixed⟩ (by kernel_rfl) (by kernel_rfl) (by kernel_rfl) rfl rfl rfl (fun a => Nat.le_of_ble_eq_true rfl) ?_
  intro a r h
  refine ⟨3000, k, ?_⟩
  rw [en48, show (fun q => evJ (F48 (f49 k)) 3000 k (td48 q) (em48 q)) = run (step48 (f49 k)) k from funext fun q => evJ_run _ _ _ (st48 (f49 k)) k q]
  exact h
noncomputable def F24 (g48 : (List S101) × (List S101) × Unit → Option (Bool)) (g49 : S101 × S101 → Option (Bool)) : Fn TT (Bool) := ⟨Try.prog, UU, tbl [(48, W (Dl.cons (Dc.row UU 74) (Dl.cons (Dc.row UU 74) (Dl.one (Dc.fn UU 49)))) g48 (Dc.bool UU)), (49, W (Dl.cons (Dc.agg uu 74) (Dl.one (Dc.agg uu 74))) g49 (Dc.bool UU))], Try.f24.ntmps, Try.f24.results.toList, [4], true, annOf [], finD (Dc.bool UU)⟩
noncomputable def start24 (g48 : (List S101) × (List S101) × Unit → Option (Bool)) (g49 : S101 × S101 → Option (Bool)) : S45 × S45 → Option (Bool)
  | (x0, x1) => (((g48 ((x0).f0, ((x1).f0, ())))).bind fun r0 => (some r0))
noncomputable def f24 (k : Nat) : S45 × S45 → Option (Bool) := start24 (f48 k) (f49 k)
theorem en24 (g48 : (List S101) × (List S101) × Unit → Option (Bool)) (g49 : S101 × S101 → Option (Bool)) (G : List Item → St TT → Option (Bool)) (a : S45 × S45) : ev (F24 g48 g49) G 3000 [.code (bodyOf Try.f24)] (st0 ((Dl.cons (Dc.agg uu 50) (Dl.one (Dc.agg uu 50))).en a)) = start24 g48 g49 a := by
  obtain ⟨x0, x1⟩ := a
  kernel_rfl
theorem snd24 (k : Nat) : Snd Try.prog UU 24 (W (Dl.cons (Dc.agg uu 50) (Dl.one (Dc.agg uu 50))) (f24 k) (Dc.bool UU)) := by
  refine snd_fn (F := F24 (f48 k) (f49 k)) (fn := Try.f24) (body := bodyOf Try.f24) ⟨uu, tbl_ok ⟨snd48 k, snd49 k, trivial⟩, mixed⟩ (by kernel_rfl) (by kernel_rfl) (by kernel_rfl) rfl rfl rfl (fun a => Nat.le_of_ble_eq_true rfl) ?_
  intro a r h
  refine ⟨3000, k, ?_⟩
  rw [en24]
  exact h
noncomputable def F36 : Fn TT (Bool) := ⟨Try.prog, UU, tbl [], Try.f36.ntmps, Try.f36.results.toList, [4], true, annOf [(4, [0, 1, 5])], finD (Dc.bool UU)⟩
inductive J36 where
  | j4 (x0 : (List Int)) (x1 : (List Int)) (x2 : Int)
noncomputable def td36 : J36 → List Item
  | .j4 _ _ _ => fnd 4 (bodyOf Try.f36) []
noncomputable def em36 : J36 → St TT
  | .j4 x0 x1 x2 => ⟨[(0, .row 3 x0), (1, .row 3 x1), (5, .v (.int .i64 x2))], [], 0⟩
noncomputable def step36 (go : J36 → Option (Bool)) : J36 → Option (Bool)
  | .j4 x0 x1 x2 => (cond (decide ((x2 : Int) < (((x0).length : Nat) : Int))) (cond (decide ((0 : Int) ≤ x2)) (cond (decide ((x2 : Int) < (((x0).length : Nat) : Int))) (cond (decide ((0 : Int) ≤ x2)) (cond (decide ((x2 : Int) < (((x1).length : Nat) : Int))) (cond (((rd3 x0 x2) : Int) != (rd3 x1 x2)) (some false) (go (.j4 x0 x1 (w64 (x2 + 1))))) none) none) none) none) (some true))
noncomputable def start36 (go : J36 → Option (Bool)) : (List Int) × (List Int) → Option (Bool)
  | (x0, x1) => (cond (((((x0).length : Nat) : Int) : Int) != (((x1).length : Nat) : Int)) (some false) (go (.j4 x0 x1 0)))
noncomputable def f36 (k : Nat) : (List Int) × (List Int) → Option (Bool) := start36 (run (step36) k)
theorem st36 (G : List Item → St TT → Option (Bool)) (p : J36) : evFrom (F36) G 3000 (td36 p) (em36 p) = step36 (fun q => G (td36 q) (em36 q)) p := by
  cases p <;> kernel_rfl
theorem en36 (G : List Item → St TT → Option (Bool)) (a : (List Int) × (List Int)) : ev (F36) G 3000 [.code (bodyOf Try.f36)] (st0 ((Dl.cons (Dc.row UU 3) (Dl.one (Dc.row UU 3))).en a)) = start36 (fun q => G (td36 q) (em36 q)) a := by
  obtain ⟨x0, x1⟩ := a
  kernel_rfl
theorem snd36 (k : Nat) : Snd Try.prog UU 36 (W (Dl.cons (Dc.row UU 3) (Dl.one (Dc.row UU 3))) (f36 k) (Dc.bool UU)) := by
  refine snd_fn (F := F36) (fn := Try.f36) (body := bodyOf Try.f36) ⟨uu, tbl_ok trivial, mixed⟩ (by kernel_rfl) (by kernel_rfl) (by kernel_rfl) rfl rfl rfl (fun a => Nat.le_of_ble_eq_true rfl) ?_
  intro a r h
  refine ⟨3000, k, ?_⟩
  rw [en36, show (fun q => evJ (F36) 3000 k (td36 q) (em36 q)) = run (step36) k from funext fun q => evJ_run _ _ _ (st36) k q]
  exact h
noncomputable def F104 : Fn TT (Bool) := ⟨Try.prog, UU, tbl [], Try.f104.ntmps, Try.f104.results.toList, [4], true, annOf [], finD (Dc.bool UU)⟩
noncomputable def start104 : S147 × S147 → Option (Bool)
  | (x0, x1) => (cond (((x0).f0 : Int) != (x1).f0) (some false) (cond (((x0).f1 : Int) != (x1).f1) (some false) (cond (!((x0).f2 == (x1).f2)) (some false) (cond (!((x0).f3 == (x1).f3)) (some false) (some true)))))
noncomputable def f104 (k : Nat) : S147 × S147 → Option (Bool) := start104
theorem en104 (G : List Item → St TT → Option (Bool)) (a : S147 × S147) : ev (F104) G 3000 [.code (bodyOf Try.f104)] (st0 ((Dl.cons (Dc.agg uu 76) (Dl.one (Dc.agg uu 76))).en a)) = start104 a := by
  obtain ⟨x0, x1⟩ := a
  kernel_rfl
theorem snd104 (k : Nat) : Snd Try.prog UU 104 (W (Dl.cons (Dc.agg uu 76) (Dl.one (Dc.agg uu 76))) (f104 k) (Dc.bool UU)) := by
  refine snd_fn (F := F104) (fn := Try.f104) (body := bodyOf Try.f104) ⟨uu, tbl_ok trivial, mixed⟩ (by kernel_rfl) (by kernel_rfl) (by kernel_rfl) rfl rfl rfl (fun a => Nat.le_of_ble_eq_true rfl) ?_
  intro a r h
  refine ⟨3000, k, ?_⟩
  rw [en104]
  exact h
noncomputable def F82 (g104 : S147 × S147 → Option (Bool)) : Fn TT (Bool) := ⟨Try.prog, UU, tbl [(104, W (Dl.cons (Dc.agg uu 76) (Dl.one (Dc.agg uu 76))) g104 (Dc.bool UU))], Try.f82.ntmps, Try.f82.results.toList, [4], true, annOf [(4, [0, 1, 5])], finD (Dc.bool UU)⟩
inductive J82 where
  | j4 (x0 : (List S147)) (x1 : (List S147)) (x2 : Int)
noncomputable def td82 : J82 → List Item
  | .j4 _ _ _ => fnd 4 (bodyOf Try.f82) []
noncomputable def em82 : J82 → St TT
  | .j4 x0 x1 x2 => ⟨[(0, .row 76 x0), (1, .row 76 x1), (5, .v (.int .i64 x2))], [], 0⟩
noncomputable def step82 (g104 : S147 × S147 → Option (Bool)) (go : J82 → Option (Bool)) : J82 → Option (Bool)
  | .j4 x0 x1 x2 => (cond (decide ((x2 : Int) < (((x0).length : Nat) : Int))) (cond (decide ((0 : Int) ≤ x2)) (cond (decide ((x2 : Int) < (((x0).length : Nat) : Int))) (cond (decide ((0 : Int) ≤ x2)) (cond (decide ((x2 : Int) < (((x1).length : Nat) : Int))) (((g104 (((rd76 x0 x2)), ((rd76 x1 x2))))).bind fun r0 => (cond (!r0) (some false) (go (.j4 x0 x1 (w64 (x2 + 1)))))) none) none) none) none) (some true))
noncomputable def start82 (g104 : S147 × S147 → Option (Bool)) (go : J82 → Option (Bool)) : (List S147) × (List S147) → Option (Bool)
  | (x0, x1) => (cond (((((x0).length : Nat) : Int) : Int) != (((x1).length : Nat) : Int)) (some false) (go (.j4 x0 x1 0)))
noncomputable def f82 (k : Nat) : (List S147) × (List S147) → Option (Bool) := start82 (f104 k) (run (step82 (f104 k)) k)
theorem st82 (g104 : S147 × S147 → Option (Bool)) (G : List Item → St TT → Option (Bool)) (p : J82) : evFrom (F82 g104) G 3000 (td82 p) (em82 p) = step82 g104 (fun q => G (td82 q) (em82 q)) p := by
  cases p <;> kernel_rfl
theorem en82 (g104 : S147 × S147 → Option (Bool)) (G : List Item → St TT → Option (Bool)) (a : (List S147) × (List S147)) : ev (F82 g104) G 3000 [.code (bodyOf Try.f82)] (st0 ((Dl.cons (Dc.row UU 76) (Dl.one (Dc.row UU 76))).en a)) = start82 g104 (fun q => G (td82 q) (em82 q)) a := by
  obtain ⟨x0, x1⟩ := a
  kernel_rfl
theorem snd82 (k : Nat) : Snd Try.prog UU 82 (W (Dl.cons (Dc.row UU 76) (Dl.one (Dc.row UU 76))) (f82 k) (Dc.bool UU)) := by
  refine snd_fn (F := F82 (f104 k)) (fn := Try.f82) (body := bodyOf Try.f82) ⟨uu, tbl_ok ⟨snd104 k, trivial⟩, mixed⟩ (by kernel_rfl) (by kernel_rfl) (by kernel_rfl) rfl rfl rfl (fun a => Nat.le_of_ble_eq_true rfl) ?_
  intro a r h
  refine ⟨3000, k, ?_⟩
  rw [en82, show (fun q => evJ (F82 (f104 k)) 3000 k (td82 q) (em82 q)) = run (step82 (f104 k)) k from funext fun q => evJ_run _ _ _ (st82 (f104 k)) k q]
  exact h
noncomputable def F83 : Fn TT (Bool) := ⟨Try.prog, UU, tbl [], Try.f83.ntmps, Try.f83.results.toList, [4], true, annOf [(4, [0, 1, 5])], finD (Dc.bool UU)⟩
inductive J83 where
  | j4 (x0 : (List ByteArray)) (x1 : (List ByteArray)) (x2 : Int)
noncomputable def td83 : J83 → List Item
  | .j4 _ _ _ => fnd 4 (bodyOf Try.f83) []
noncomputable def em83 : J83 → St TT
  | .j4 x0 x1 x2 => ⟨[(0, .row 9 x0), (1, .row 9 x1), (5, .v (.int .i64 x2))], [], 0⟩
noncomputable def step83 (go : J83 → Option (Bool)) : J83 → Option (Bool)
  | .j4 x0 x1 x2 => (cond (decide ((x2 : Int) < (((x0).length : Nat) : Int))) (cond (decide ((0 : Int) ≤ x2)) (cond (decide ((x2 : Int) < (((x0).length : Nat) : Int))) (cond (decide ((0 : Int) ≤ x2)) (cond (decide ((x2 : Int) < (((x1).length : Nat) : Int))) (cond (!(((rd9 x0 x2)).toList == ((rd9 x1 x2)).toList)) (some false) (go (.j4 x0 x1 (w64 (x2 + 1))))) none) none) none) none) (some true))
noncomputable def start83 (go : J83 → Option (Bool)) : (List ByteArray) × (List ByteArray) → Option (Bool)
  | (x0, x1) => (cond (((((x0).length : Nat) : Int) : Int) != (((x1).length : Nat) : Int)) (some false) (go (.j4 x0 x1 0)))
noncomputable def f83 (k : Nat) : (List ByteArray) × (List ByteArray) → Option (Bool) := start83 (run (step83) k)
theorem st83 (G : List Item → St TT → Option (Bool)) (p : J83) : evFrom (F83) G 3000 (td83 p) (em83 p) = step83 (fun q => G (td83 q) (em83 q)) p := by
  cases p <;> kernel_rfl
theorem en83 (G : List Item → St TT → Option (Bool)) (a : (List ByteArray) × (List ByteArray)) : ev (F83) G 3000 [.code (bodyOf Try.f83)] (st0 ((Dl.cons (Dc.row UU 9) (Dl.one (Dc.row UU 9))).en a)) = start83 (fun q => G (td83 q) (em83 q)) a := by
  obtain ⟨x0, x1⟩ := a
  kernel_rfl
theorem snd83 (k : Nat) : Snd Try.prog UU 83 (W (Dl.cons (Dc.row UU 9) (Dl.one (Dc.row UU 9))) (f83 k) (Dc.bool UU)) := by
  refine snd_fn (F := F83) (fn := Try.f83) (body := bodyOf Try.f83) ⟨uu, tbl_ok trivial, mixed⟩ (by kernel_rfl) (by kernel_rfl) (by kernel_rfl) rfl rfl rfl (fun a => Nat.le_of_ble_eq_true rfl) ?_
  intro a r h
  refine ⟨3000, k, ?_⟩
  rw [en83, show (fun q => evJ (F83) 3000 k (td83 q) (em83 q)) = run (step83) k from funext fun q => evJ_run _ _ _ (st83) k q]
  exact h
noncomputable def F64 (g36 : (List Int) × (List Int) → Option (Bool)) (g82 : (List S147) × (List S147) → Option (Bool)) (g83 : (List ByteArray) × (List ByteArray) → Option (Bool)) : Fn TT (Bool) := ⟨Try.prog, UU, tbl [(36, W (Dl.cons (Dc.row UU 3) (Dl.one (Dc.row UU 3))) g36 (Dc.bool UU)), (82, W (Dl.cons (Dc.row UU 76) (Dl.one (Dc.row UU 76))) g82 (Dc.bool UU)), (83, W (Dl.cons (Dc.row UU 9) (Dl.one (Dc.row UU 9))) g83 (Dc.bool UU))], Try.f64.ntmps, Try.f64.results.toList, [4], true, annOf [], finD (Dc.bool UU)⟩
noncomputable def start64 (g36 : (List Int) × (List Int) → Option (Bool)) (g82 : (List S147) × (List S147) → Option (Bool)) (g83 : (List ByteArray) × (List ByteArray) → Option (Bool)) : S101 × S101 → Option (Bool)
  | (x0, x1) => (cond (!((x0).f0 == (x1).f0)) (some false) (((g82 ((x0).f1, (x1).f1))).bind fun r0 => (cond (!r0) (some false) (((g36 ((x0).f2, (x1).f2))).bind fun r1 => (cond (!r1) (some false) (((g83 ((x0).f3, (x1).f3))).bind fun r2 => (cond (!r2) (some false) (some true))))))))
noncomputable def f64 (k : Nat) : S101 × S101 → Option (Bool) := start64 (f36 k) (f82 k) (f83 k)
theorem en64 (g36 : (List Int) × (List Int) → Option (Bool)) (g82 : (List S147) × (List S147) → Option (Bool)) (g83 : (List ByteArray) × (List ByteArray) → Option (Bool)) (G : List Item → St TT → Option (Bool)) (a : S101 × S101) : ev (F64 g36 g82 g83) G 3000 [.code (bodyOf Try.f64)] (st0 ((Dl.cons (Dc.agg uu 74) (Dl.one (Dc.agg uu 74))).en a)) = start64 g36 g82 g83 a := by
  obtain ⟨x0, x1⟩ := a
  kernel_rfl
theorem snd64 (k : Nat) : Snd Try.prog UU 64 (W (Dl.cons (Dc.agg uu 74) (Dl.one (Dc.agg uu 74))) (f64 k) (Dc.bool UU)) := by
  refine snd_fn (F := F64 (f36 k) (f82 k) (f83 k)) (fn := Try.f64) (body := bodyOf Try.f64) ⟨uu, tbl_ok ⟨snd36 k, snd82 k, snd83 k, trivial⟩, mixed⟩ (by kernel_rfl) (by kernel_rfl) (by kernel_rfl) rfl rfl rfl (fun a => Nat.le_of_ble_eq_true rfl) ?_
  intro a r h
  refine ⟨3000, k, ?_⟩
  rw [en64]
  exact h
noncomputable def F53 (g64 : S101 × S101 → Option (Bool)) : Fn TT (Bool) := ⟨Try.prog, UU, tbl [(64, W (Dl.cons (Dc.agg uu 74) (Dl.one (Dc.agg uu 74))) g64 (Dc.bool UU))], Try.f53.ntmps, Try.f53.results.toList, [4], true, annOf [(4, [0, 1, 5])], finD (Dc.bool UU)⟩
inductive J53 where
  | j4 (x0 : (List S101)) (x1 : (List S101)) (x2 : Int)
noncomputable def td53 : J53 → List Item
  | .j4 _ _ _ => fnd 4 (bodyOf Try.f53) []
noncomputable def em53 : J53 → St TT
  | .j4 x0 x1 x2 => ⟨[(0, .row 74 x0), (1, .row 74 x1), (5, .v (.int .i64 x2))], [], 0⟩
noncomputable def step53 (g64 : S101 × S101 → Option (Bool)) (go : J53 → Option (Bool)) : J53 → Option (Bool)
  | .j4 x0 x1 x2 => (cond (decide ((x2 : Int) < (((x0).length : Nat) : Int))) (cond (decide ((0 : Int) ≤ x2)) (cond (decide ((x2 : Int) < (((x0).length : Nat) : Int))) (cond (decide ((0 : Int) ≤ x2)) (cond (decide ((x2 : Int) < (((x1).length : Nat) : Int))) (((g64 (((rd74 x0 x2)), ((rd74 x1 x2))))).bind fun r0 => (cond (!r0) (some false) (go (.j4 x0 x1 (w64 (x2 + 1)))))) none) none) none) none) (some true))
noncomputable def start53 (g64 : S101 × S101 → Option (Bool)) (go : J53 → Option (Bool)) : (List S101) × (List S101) → Option (Bool)
  | (x0, x1) => (cond (((((x0).length : Nat) : Int) : Int) != (((x1).length : Nat) : Int)) (some false) (go (.j4 x0 x1 0)))
noncomputable def f53 (k : Nat) : (List S101) × (List S101) → Option (Bool) := start53 (f64 k) (run (step53 (f64 k)) k)
theorem st53 (g64 : S101 × S101 → Option (Bool)) (G : List Item → St TT → Option (Bool)) (p : J53) : evFrom (F53 g64) G 3000 (td53 p) (em53 p) = step53 g64 (fun q => G (td53 q) (em53 q)) p := by
  cases p <;> kernel_rfl
theorem en53 (g64 : S101 × S101 → Option (Bool)) (G : List Item → St TT → Option (Bool)) (a : (List S101) × (List S101)) : ev (F53 g64) G 3000 [.code (bodyOf Try.f53)] (st0 ((Dl.cons (Dc.row UU 74) (Dl.one (Dc.row UU 74))).en a)) = start53 g64 (fun q => G (td53 q) (em53 q)) a := by
  obtain ⟨x0, x1⟩ := a
  kernel_rfl
theorem snd53 (k : Nat) : Snd Try.prog UU 53 (W (Dl.cons (Dc.row UU 74) (Dl.one (Dc.row UU 74))) (f53 k) (Dc.bool UU)) := by
  refine snd_fn (F := F53 (f64 k)) (fn := Try.f53) (body := bodyOf Try.f53) ⟨uu, tbl_ok ⟨snd64 k, trivial⟩, mixed⟩ (by kernel_rfl) (by kernel_rfl) (by kernel_rfl) rfl rfl rfl (fun a => Nat.le_of_ble_eq_true rfl) ?_
  intro a r h
  refine ⟨3000, k, ?_⟩
  rw [en53, show (fun q => evJ (F53 (f64 k)) 3000 k (td53 q) (em53 q)) = run (step53 (f64 k)) k from funext fun q => evJ_run _ _ _ (st53 (f64 k)) k q]
  exact h
noncomputable def F25 (g53 : (List S101) × (List S101) → Option (Bool)) : Fn TT (Bool) := ⟨Try.prog, UU, tbl [(53, W (Dl.cons (Dc.row UU 74) (Dl.one (Dc.row UU 74))) g53 (Dc.bool UU))], Try.f25.ntmps, Try.f25.results.toList, [4], true, annOf [], finD (Dc.bool UU)⟩
noncomputable def start25 (g53 : (List S101) × (List S101) → Option (Bool)) : S45 × S45 → Option (Bool)
  | (x0, x1) => (((g53 ((x0).f0, (x1).f0))).bind fun r0 => (cond (!r0) (some false) (some true)))
noncomputable def f25 (k : Nat) : S45 × S45 → Option (Bool) := start25 (f53 k)
theorem en25 (g53 : (List S101) × (List S101) → Option (Bool)) (G : List Item → St TT → Option (Bool)) (a : S45 × S45) : ev (F25 g53) G 3000 [.code (bodyOf Try.f25)] (st0 ((Dl.cons (Dc.agg uu 50) (Dl.one (Dc.agg uu 50))).en a)) = start25 g53 a := by
  obtain ⟨x0, x1⟩ := a
  kernel_rfl
theorem snd25 (k : Nat) : Snd Try.prog UU 25 (W (Dl.cons (Dc.agg uu 50) (Dl.one (Dc.agg uu 50))) (f25 k) (Dc.bool UU)) := by
  refine snd_fn (F := F25 (f53 k)) (fn := Try.f25) (body := bodyOf Try.f25) ⟨uu, tbl_ok ⟨snd53 k, trivial⟩, mixed⟩ (by kernel_rfl) (by kernel_rfl) (by kernel_rfl) rfl rfl rfl (fun a => Nat.le_of_ble_eq_true rfl) ?_
  intro a r h
  refine ⟨3000, k, ?_⟩
  rw [en25]
  exact h
noncomputable def F6 (g21 : S45 × Int → Option (Int)) (g22 : S45 × S45 → Option (Bool)) (g23 : S45 → Option (S45)) (g24 : S45 × S45 → Option (Bool)) (g25 : S45 × S45 → Option (Bool)) : Fn TT (Bool) := ⟨Try.prog, UU, tbl [(21, W (Dl.cons (Dc.agg uu 45) (Dl.one (Dc.int UU .i64))) g21 (Dc.int UU .i64)), (22, W (Dl.cons (Dc.agg uu 50) (Dl.one (Dc.agg uu 50))) g22 (Dc.bool UU)), (23, W (Dl.one (Dc.agg uu 45)) g23 (Dc.agg uu 50)), (24, W (Dl.cons (Dc.agg uu 50) (Dl.one (Dc.agg uu 50))) g24 (Dc.bool UU)), (25, W (Dl.cons (Dc.agg uu 50) (Dl.one (Dc.agg uu 50))) g25 (Dc.bool UU))], Try.f6.ntmps, Try.f6.results.toList, [4], true, annOf [], finD (Dc.bool UU)⟩
noncomputable def start6 (g21 : S45 × Int → Option (Int)) (g22 : S45 × S45 → Option (Bool)) (g23 : S45 → Option (S45)) (g24 : S45 × S45 → Option (Bool)) (g25 : S45 × S45 → Option (Bool)) : S45 × S45 → Option (Bool)
  | (x0, x1) => (((g21 ((x0), 1048576))).bind fun r0 => (cond (decide ((r0 : Int) < 0)) (some true) (((g21 ((x1), r0))).bind fun r1 => (cond (decide ((r1 : Int) < 0)) (some true) (((g23 (x0))).bind fun r2 => (((g23 (x1))).bind fun r3 => (((g22 ((r2), (r3)))).bind fun r4 => (((g23 (x0))).bind fun r5 => (((g23 (x1))).bind fun r6 => (((g24 ((r5), (r6)))).bind fun r7 => (cond (!(r7 == r4)) (some false) (((g23 (x0))).bind fun r8 => (((g25 ((r5), (r8)))).bind fun r9 => (cond (!r9) (some false) (((g23 (x1))).bind fun r10 => (((g25 ((r6), (r10)))).bind fun r11 => (cond (!r11) (some false) (some true))))))))))))))))))
noncomputable def f6 (k : Nat) : S45 × S45 → Option (Bool) := start6 (f21 k) (f22 k) (f23 k) (f24 k) (f25 k)
theorem en6 (g21 : S45 × Int → Option (Int)) (g22 : S45 × S45 → Option (Bool)) (g23 : S45 → Option (S45)) (g24 : S45 × S45 → Option (Bool)) (g25 : S45 × S45 → Option (Bool)) (G : List Item → St TT → Option (Bool)) (a : S45 × S45) : ev (F6 g21 g22 g23 g24 g25) G 3000 [.code (bodyOf Try.f6)] (st0 ((Dl.cons (Dc.agg uu 45) (Dl.one (Dc.agg uu 45))).en a)) = start6 g21 g22 g23 g24 g25 a := by
  obtain ⟨x0, x1⟩ := a
  kernel_rfl
theorem snd6 (k : Nat) : Snd Try.prog UU 6 (W (Dl.cons (Dc.agg uu 45) (Dl.one (Dc.agg uu 45))) (f6 k) (Dc.bool UU)) := by
  refine snd_fn (F := F6 (f21 k) (f22 k) (f23 k) (f24 k) (f25 k)) (fn := Try.f6) (body := bodyOf Try.f6) ⟨uu, tbl_ok ⟨snd21 k, snd22 k, snd23 k, snd24 k, snd25 k, trivial⟩, mixed⟩ (by kernel_rfl) (by kernel_rfl) (by kernel_rfl) rfl rfl rfl (fun a => Nat.le_of_ble_eq_true rfl) ?_
  intro a r h
  refine ⟨3000, k, ?_⟩
  rw [en6]
  exact h
end Go.Sx
