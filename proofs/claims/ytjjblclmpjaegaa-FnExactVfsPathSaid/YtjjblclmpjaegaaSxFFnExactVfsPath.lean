/- What the functions that FnExactVfsPath reaches compute, and that they do. No condition. -/
import Derived.Test.YtjjblclmpjaegaaSxU
import Derived.Test.YtjjblclmpjaegaaSxX34
set_option linter.unusedVariables false
set_option linter.unusedSimpArgs false
namespace Go.Sx
open Go.RowKit Go.Proofs
noncomputable def F56 : Fn TT (Int) := ⟨Try.prog, UU, tbl [], Try.f56.ntmps, Try.f56.results.toList, [3], true, annOf [], finD (Dc.int UU .i64)⟩
noncomputable def start56 : S94 × Int → Option (Int)
  | (x0, x1) => (cond (decide (((w64 (x1 - ((((x0).f0).size : Nat) : Int))) : Int) < 0)) (some (-1)) (some (w64 (x1 - ((((x0).f0).size : Nat) : Int)))))
noncomputable def f56 (k : Nat) : S94 × Int → Option (Int) := start56
theorem en56 (G : List Item → St TT → Option (Int)) (a : S94 × Int) : ev (F56) G 3000 [.code (bodyOf Try.f56)] (st0 ((Dl.cons (Dc.agg uu 94) (Dl.one (Dc.int UU .i64))).en a)) = start56 a := by
  obtain ⟨x0, x1⟩ := a
  kernel_rfl
theorem snd56 (k : Nat) : Snd Try.prog UU 56 (W (Dl.cons (Dc.agg uu 94) (Dl.one (Dc.int UU .i64))) (f56 k) (Dc.int UU .i64)) := by
  refine snd_fn (F := F56) (fn := Try.f56) (body := bodyOf Try.f56) ⟨uu, tbl_ok trivial, mixed⟩ (by kernel_rfl) (by kernel_rfl) (by kernel_rfl) rfl rfl rfl (fun a => Nat.le_of_ble_eq_true rfl) ?_
  intro a r h
  refine ⟨3000, k, ?_⟩
  rw [en56]
  exact h
noncomputable def F53 (g56 : S94 × Int → Option (Int)) : Fn TT (Int) := ⟨Try.prog, UU, tbl [(56, W (Dl.cons (Dc.agg uu 94) (Dl.one (Dc.int UU .i64))) g56 (Dc.int UU .i64))], Try.f53.ntmps, Try.f53.results.toList, [3], true, annOf [(5, [0, 1, 5])], finD (Dc.int UU .i64)⟩
inductive J53 where
  | j5 (x0 : (List S94)) (x1 : Int) (x2 : Int)
noncomputable def td53 : J53 → List Item
  | .j5 _ _ _ => fnd 5 (bodyOf Try.f53) []
noncomputable def em53 : J53 → St TT
  | .j5 x0 x1 x2 => ⟨[(0, .row 94 x0), (1, .v (.int .i64 x1)), (5, .v (.int .i64 x2))], [], 0⟩
noncomputable def step53 (g56 : S94 × Int → Option (Int)) (go : J53 → Option (Int)) : J53 → Option (Int)
  | .j5 x0 x1 x2 => (cond (decide ((x2 : Int) < (((x0).length : Nat) : Int))) (cond (decide ((0 : Int) ≤ x2)) (cond (decide ((x2 : Int) < (((x0).length : Nat) : Int))) (((g56 (((rd94 x0 x2)), x1))).bind fun r0 => (cond (decide ((r0 : Int) < 0)) (some (-1)) (go (.j5 x0 r0 (w64 (x2 + 1)))))) none) none) (some x1))
noncomputable def start53 (g56 : S94 × Int → Option (Int)) (go : J53 → Option (Int)) : (List S94) × Int → Option (Int)
  | (x0, x1) => (cond (decide (((w64 (x1 - (((x0).length : Nat) : Int))) : Int) < 0)) (some (-1)) (go (.j5 x0 (w64 (x1 - (((x0).length : Nat) : Int))) 0)))
noncomputable def f53 (k : Nat) : (List S94) × Int → Option (Int) := start53 (f56 k) (run (step53 (f56 k)) k)
theorem st53 (g56 : S94 × Int → Option (Int)) (G : List Item → St TT → Option (Int)) (p : J53) : evFrom (F53 g56) G 3000 (td53 p) (em53 p) = step53 g56 (fun q => G (td53 q) (em53 q)) p := by
  cases p <;> kernel_rfl
theorem en53 (g56 : S94 × Int → Option (Int)) (G : List Item → St TT → Option (Int)) (a : (List S94) × Int) : ev (F53 g56) G 3000 [.code (bodyOf Try.f53)] (st0 ((Dl.cons (Dc.row UU 94) (Dl.one (Dc.int UU .i64))).en a)) = start53 g56 (fun q => G (td53 q) (em53 q)) a := by
  obtain ⟨x0, x1⟩ := a
  kernel_rfl
theorem snd53 (k : Nat) : Snd Try.prog UU 53 (W (Dl.cons (Dc.row UU 94) (Dl.one (Dc.int UU .i64))) (f53 k) (Dc.int UU .i64)) := by
  refine snd_fn (F := F53 (f56 k)) (fn := Try.f53) (body := bodyOf Try.f53) ⟨uu, tbl_ok ⟨snd56 k, trivial⟩, mixed⟩ (by kernel_rfl) (by kernel_rfl) (by kernel_rfl) rfl rfl rfl (fun a => Nat.le_of_ble_eq_true rfl) ?_
  intro a r h
  refine ⟨3000, k, ?_⟩
  rw [en53, show (fun q => evJ (F53 (f56 k)) 3000 k (td53 q) (em53 q)) = run (step53 (f56 k)) k from funext fun q => evJ_run _ _ _ (st53 (f56 k)) k q]
  exact h
noncomputable def F49 (g53 : (List S94) × Int → Option (Int)) : Fn TT (Int) := ⟨Try.prog, UU, tbl [(53, W (Dl.cons (Dc.row UU 94) (Dl.one (Dc.int UU .i64))) g53 (Dc.int UU .i64))], Try.f49.ntmps, Try.f49.results.toList, [3], true, annOf [], finD (Dc.int UU .i64)⟩
noncomputable def start49 (g53 : (List S94) × Int → Option (Int)) : S86 × Int → Option (Int)
  | (x0, x1) => (cond (decide (((w64 (x1 - ((((x0).f7).size : Nat) : Int))) : Int) < 0)) (some (-1)) (((g53 ((x0).f8, (w64 (x1 - ((((x0).f7).size : Nat) : Int)))))).bind fun r0 => (cond (decide ((r0 : Int) < 0)) (some (-1)) (some r0))))
noncomputable def f49 (k : Nat) : S86 × Int → Option (Int) := start49 (f53 k)
theorem en49 (g53 : (List S94) × Int → Option (Int)) (G : List Item → St TT → Option (Int)) (a : S86 × Int) : ev (F49 g53) G 3000 [.code (bodyOf Try.f49)] (st0 ((Dl.cons (Dc.agg uu 86) (Dl.one (Dc.int UU .i64))).en a)) = start49 g53 a := by
  obtain ⟨x0, x1⟩ := a
  kernel_rfl
theorem snd49 (k : Nat) : Snd Try.prog UU 49 (W (Dl.cons (Dc.agg uu 86) (Dl.one (Dc.int UU .i64))) (f49 k) (Dc.int UU .i64)) := by
  refine snd_fn (F := F49 (f53 k)) (fn := Try.f49) (body := bodyOf Try.f49) ⟨uu, tbl_ok ⟨snd53 k, trivial⟩, mixed⟩ (by kernel_rfl) (by kernel_rfl) (by kernel_rfl) rfl rfl rfl (fun a => Nat.le_of_ble_eq_true rfl) ?_
  intro a r h
  refine ⟨3000, k, ?_⟩
  rw [en49]
  exact h
noncomputable def F40 (g49 : S86 × Int → Option (Int)) : Fn TT (Int) := ⟨Try.prog, UU, tbl [(49, W (Dl.cons (Dc.agg uu 86) (Dl.one (Dc.int UU .i64))) g49 (Dc.int UU .i64))], Try.f40.ntmps, Try.f40.results.toList, [3], true, annOf [(5, [0, 1, 5])], finD (Dc.int UU .i64)⟩
inductive J40 where
  | j5 (x0 : (List S86)) (x1 : Int) (x2 : Int)
noncomputable def td40 : J40 → List Item
  | .j5 _ _ _ => fnd 5 (bodyOf Try.f40) []
noncomputable def em40 : J40 → St TT
  | .j5 x0 x1 x2 => ⟨[(0, .row 86 x0), (1, .v (.int .i64 x1)), (5, .v (.int .i64 x2))], [], 0⟩
noncomputable def step40 (g49 : S86 × Int → Option (Int)) (go : J40 → Option (Int)) : J40 → Option (Int)
  | .j5 x0 x1 x2 => (cond (decide ((x2 : Int) < (((x0).length : Nat) : Int))) (cond (decide ((0 : Int) ≤ x2)) (cond (decide ((x2 : Int) < (((x0).length : Nat) : Int))) (((g49 (((rd86 x0 x2)), x1))).bind fun r0 => (cond (decide ((r0 : Int) < 0)) (some (-1)) (go (.j5 x0 r0 (w64 (x2 + 1)))))) none) none) (some x1))
noncomputable def start40 (g49 : S86 × Int → Option (Int)) (go : J40 → Option (Int)) : (List S86) × Int → Option (Int)
  | (x0, x1) => (cond (decide (((w64 (x1 - (((x0).length : Nat) : Int))) : Int) < 0)) (some (-1)) (go (.j5 x0 (w64 (x1 - (((x0).length : Nat) : Int))) 0)))
noncomputable def f40 (k : Nat) : (List S86) × Int → Option (Int) := start40 (f49 k) (run (step40 (f49 k)) k)
theorem st40 (g49 : S86 × Int → Option (Int)) (G : List Item → St TT → Option (Int)) (p : J40) : evFrom (F40 g49) G 3000 (td40 p) (em40 p) = step40 g49 (fun q => G (td40 q) (em40 q)) p := by
  cases p <;> kernel_rfl
theorem en40 (g49 : S86 × Int → Option (Int)) (G : List Item → St TT → Option (Int)) (a : (List S86) × Int) : ev (F40 g49) G 3000 [.code (bodyOf Try.f40)] (st0 ((Dl.cons (Dc.row UU 86) (Dl.one (Dc.int UU .i64))).en a)) = start40 g49 (fun q => G (td40 q) (em40 q)) a := by
  obtain ⟨x0, x1⟩ := a
  kernel_rfl
theorem snd40 (k : Nat) : Snd Try.prog UU 40 (W (Dl.cons (Dc.row UU 86) (Dl.one (Dc.int UU .i64))) (f40 k) (Dc.int UU .i64)) := by
  refine snd_fn (F := F40 (f49 k)) (fn := Try.f40) (body := bodyOf Try.f40) ⟨uu, tbl_ok ⟨snd49 k, trivial⟩, mixed⟩ (by kernel_rfl) (by kernel_rfl) (by kernel_rfl) rfl rfl rfl (fun a => Nat.le_of_ble_eq_true rfl) ?_
  intro a r h
  refine ⟨3000, k, ?_⟩
  rw [en40, show (fun q => evJ (F40 (f49 k)) 3000 k (td40 q) (em40 q)) = run (step40 (f49 k)) k from funext fun q => evJ_run _ _ _ (st40 (f49 k)) k q]
  exact h
noncomputable def F29 (g40 : (List S86) × Int → Option (Int)) : Fn TT (Int) := ⟨Try.prog, UU, tbl [(40, W (Dl.cons (Dc.row UU 86) (Dl.one (Dc.int UU .i64))) g40 (Dc.int UU .i64))], Try.f29.ntmps, Try.f29.results.toList, [3], true, annOf [], finD (Dc.int UU .i64)⟩
noncomputable def start29 (g40 : (List S86) × Int → Option (Int)) : S63 × Int → Option (Int)
  | (x0, x1) => (((g40 ((x0).f0, x1))).bind fun r0 => (cond (decide ((r0 : Int) < 0)) (some (-1)) (some r0)))
noncomputable def f29 (k : Nat) : S63 × Int → Option (Int) := start29 (f40 k)
theorem en29 (g40 : (List S86) × Int → Option (Int)) (G : List Item → St TT → Option (Int)) (a : S63 × Int) : ev (F29 g40) G 3000 [.code (bodyOf Try.f29)] (st0 ((Dl.cons (Dc.agg uu 63) (Dl.one (Dc.int UU .i64))).en a)) = start29 g40 a := by
  obtain ⟨x0, x1⟩ := a
  kernel_rfl
theorem snd29 (k : Nat) : Snd Try.prog UU 29 (W (Dl.cons (Dc.agg uu 63) (Dl.one (Dc.int UU .i64))) (f29 k) (Dc.int UU .i64)) := by
  refine snd_fn (F := F29 (f40 k)) (fn := Try.f29) (body := bodyOf Try.f29) ⟨uu, tbl_ok ⟨snd40 k, trivial⟩, mixed⟩ (by kernel_rfl) (by kernel_rfl) (by kernel_rfl) rfl rfl rfl (fun a => Nat.le_of_ble_eq_true rfl) ?_
  intro a r h
  refine ⟨3000, k, ?_⟩
  rw [en29]
  exact h
noncomputable def F13 (g29 : S63 × Int → Option (Int)) : Fn TT (Int) := ⟨Try.prog, UU, tbl [(29, W (Dl.cons (Dc.agg uu 63) (Dl.one (Dc.int UU .i64))) g29 (Dc.int UU .i64))], Try.f13.ntmps, Try.f13.results.toList, [3], true, annOf [(5, [0, 1, 5])], finD (Dc.int UU .i64)⟩
inductive J13 where
  | j5 (x0 : (List S63)) (x1 : Int) (x2 : Int)
noncomputable def td13 : J13 → List Item
  | .j5 _ _ _ => fnd 5 (bodyOf Try.f13) []
noncomputable def em13 : J13 → St TT
  | .j5 x0 x1 x2 => ⟨[(0, .row 63 x0), (1, .v (.int .i64 x1)), (5, .v (.int .i64 x2))], [], 0⟩
noncomputable def step13 (g29 : S63 × Int → Option (Int)) (go : J13 → Option (Int)) : J13 → Option (Int)
  | .j5 x0 x1 x2 => (cond (decide ((x2 : Int) < (((x0).length : Nat) : Int))) (cond (decide ((0 : Int) ≤ x2)) (cond (decide ((x2 : Int) < (((x0).length : Nat) : Int))) (((g29 (((rd63 x0 x2)), x1))).bind fun r0 => (cond (decide ((r0 : Int) < 0)) (some (-1)) (go (.j5 x0 r0 (w64 (x2 + 1)))))) none) none) (some x1))
noncomputable def start13 (g29 : S63 × Int → Option (Int)) (go : J13 → Option (Int)) : (List S63) × Int → Option (Int)
  | (x0, x1) => (cond (decide (((w64 (x1 - (((x0).length : Nat) : Int))) : Int) < 0)) (some (-1)) (go (.j5 x0 (w64 (x1 - (((x0).length : Nat) : Int))) 0)))
noncomputable def f13 (k : Nat) : (List S63) × Int → Option (Int) := start13 (f29 k) (run (step13 (f29 k)) k)
theorem st13 (g29 : S63 × Int → Option (Int)) (G : List Item → St TT → Option (Int)) (p : J13) : evFrom (F13 g29) G 3000 (td13 p) (em13 p) = step13 g29 (fun q => G (td13 q) (em13 q)) p := by
  cases p <;> kernel_rfl
theorem en13 (g29 : S63 × Int → Option (Int)) (G : List Item → St TT → Option (Int)) (a : (List S63) × Int) : ev (F13 g29) G 3000 [.code (bodyOf Try.f13)] (st0 ((Dl.cons (Dc.row UU 63) (Dl.one (Dc.int UU .i64))).en a)) = start13 g29 (fun q => G (td13 q) (em13 q)) a := by
  obtain ⟨x0, x1⟩ := a
  kernel_rfl
theorem snd13 (k : Nat) : Snd Try.prog UU 13 (W (Dl.cons (Dc.row UU 63) (Dl.one (Dc.int UU .i64))) (f13 k) (Dc.int UU .i64)) := by
  refine snd_fn (F := F13 (f29 k)) (fn := Try.f13) (body := bodyOf Try.f13) ⟨uu, tbl_ok ⟨snd29 k, trivial⟩, mixed⟩ (by kernel_rfl) (by kernel_rfl) (by kernel_rfl) rfl rfl rfl (fun a => Nat.le_of_ble_eq_true rfl) ?_
  intro a r h
  refine ⟨3000, k, ?_⟩
  rw [en13, show (fun q => evJ (F13 (f29 k)) 3000 k (td13 q) (em13 q)) = run (step13 (f29 k)) k from funext fun q => evJ_run _ _ _ (st13 (f29 k)) k q]
  exact h
noncomputable def F5 (g13 : (List S63) × Int → Option (Int)) : Fn TT (Int) := ⟨Try.prog, UU, tbl [(13, W (Dl.cons (Dc.row UU 63) (Dl.one (Dc.int UU .i64))) g13 (Dc.int UU .i64))], Try.f5.ntmps, Try.f5.results.toList, [3], true, annOf [], finD (Dc.int UU .i64)⟩
noncomputable def start5 (g13 : (List S63) × Int → Option (Int)) : S24 × Int → Option (Int)
  | (x0, x1) => (((g13 ((x0).f0, x1))).bind fun r0 => (cond (decide ((r0 : Int) < 0)) (some (-1)) (some r0)))
noncomputable def f5 (k : Nat) : S24 × Int → Option (Int) := start5 (f13 k)
theorem en5 (g13 : (List S63) × Int → Option (Int)) (G : List Item → St TT → Option (Int)) (a : S24 × Int) : ev (F5 g13) G 3000 [.code (bodyOf Try.f5)] (st0 ((Dl.cons (Dc.agg uu 24) (Dl.one (Dc.int UU .i64))).en a)) = start5 g13 a := by
  obtain ⟨x0, x1⟩ := a
  kernel_rfl
theorem snd5 (k : Nat) : Snd Try.prog UU 5 (W (Dl.cons (Dc.agg uu 24) (Dl.one (Dc.int UU .i64))) (f5 k) (Dc.int UU .i64)) := by
  refine snd_fn (F := F5 (f13 k)) (fn := Try.f5) (body := bodyOf Try.f5) ⟨uu, tbl_ok ⟨snd13 k, trivial⟩, mixed⟩ (by kernel_rfl) (by kernel_rfl) (by kernel_rfl) rfl rfl rfl (fun a => Nat.le_of_ble_eq_true rfl) ?_
  intro a r h
  refine ⟨3000, k, ?_⟩
  rw [en5]
  exact h
noncomputable def F57 : Fn TT (S94) := ⟨Try.prog, UU, tbl [], Try.f57.ntmps, Try.f57.results.toList, [67], true, annOf [], finD (Dc.agg uu 67)⟩
noncomputable def start57 : S94 → Option (S94)
  | x0 => (some (x0))
noncomputable def f57 (k : Nat) : S94 → Option (S94) := start57
theorem en57 (G : List Item → St TT → Option (S94)) (a : S94) : ev (F57) G 3000 [.code (bodyOf Try.f57)] (st0 ((Dl.one (Dc.agg uu 94)).en a)) = start57 a := by
  kernel_rfl
theorem snd57 (k : Nat) : Snd Try.prog UU 57 (W (Dl.one (Dc.agg uu 94)) (f57 k) (Dc.agg uu 67)) := by
  refine snd_fn (F := F57) (fn := Try.f57) (body := bodyOf Try.f57) ⟨uu, tbl_ok trivial, mixed⟩ (by kernel_rfl) (by kernel_rfl) (by kernel_rfl) rfl rfl rfl (fun a => Nat.le_of_ble_eq_true rfl) ?_
  intro a r h
  refine ⟨3000, k, ?_⟩
  rw [en57]
  exact h
noncomputable def F54 (g57 : S94 → Option (S94)) : Fn TT ((List S94)) := ⟨Try.prog, UU, tbl [(57, W (Dl.one (Dc.agg uu 94)) g57 (Dc.agg uu 67))], Try.f54.ntmps, Try.f54.results.toList, [47], true, annOf [(3, [0, 3, 4])], finD (Dc.row UU 67)⟩
inductive J54 where
  | j3 (x0 : (List S94)) (x1 : Int) (x2 : (List S94))
noncomputable def td54 : J54 → List Item
  | .j3 _ _ _ => fnd 3 (bodyOf Try.f54) []
noncomputable def em54 : J54 → St TT
  | .j3 x0 x1 x2 => ⟨[(0, .row 94 x0), (3, .own 0), (4, .v (.int .i64 x1))], [(0, .arr 67 x2)], 1⟩
noncomputable def step54 (g57 : S94 → Option (S94)) (go : J54 → Option ((List S94))) : J54 → Option ((List S94))
  | .j3 x0 x1 x2 => (cond (decide ((x1 : Int) < (((x0).length : Nat) : Int))) (cond (decide ((0 : Int) ≤ x1)) (cond (decide ((x1 : Int) < (((x0).length : Nat) : Int))) (((g57 ((rd94 x0 x1)))).bind fun r0 => (cond (decide ((0 : Int) ≤ x1)) (cond (decide ((x1 : Int) < (((x2).length : Nat) : Int))) (cond (decide ((0 : Int) ≤ x1)) (cond (decide ((x1 : Int) < (((x2).length : Nat) : Int))) (go (.j3 x0 (w64 (x1 + 1)) (List.set x2 (x1).toNat (r0)))) none) none) none) none)) none) none) (some x2))
noncomputable def start54 (g57 : S94 → Option (S94)) (go : J54 → Option ((List S94))) : (List S94) → Option ((List S94))
  | x0 => (cond (decide (((24 * (((x0).length : Nat) : Int)) : Int) ≤ 140737488355328)) (cond (decide (((((x0).length : Nat) : Int) : Int) ≤ 140737488355328)) (go (.j3 x0 0 (List.replicate ((((x0).length : Nat) : Int)).toNat (⟨(⟨#[]⟩ : ByteArray), 0⟩ : S94)))) none) none)
noncomputable def f54 (k : Nat) : (List S94) → Option ((List S94)) := start54 (f57 k) (run (step54 (f57 k)) k)
theorem st54 (g57 : S94 → Option (S94)) (G : List Item → St TT → Option ((List S94))) (p : J54) : evFrom (F54 g57) G 3000 (td54 p) (em54 p) = step54 g57 (fun q => G (td54 q) (em54 q)) p := by
  cases p <;> kernel_rfl
theorem en54 (g57 : S94 → Option (S94)) (G : List Item → St TT → Option ((List S94))) (a : (List S94)) : ev (F54 g57) G 3000 [.code (bodyOf Try.f54)] (st0 ((Dl.one (Dc.row UU 94)).en a)) = start54 g57 (fun q => G (td54 q) (em54 q)) a := by
  kernel_rfl
theorem snd54 (k : Nat) : Snd Try.prog UU 54 (W (Dl.one (Dc.row UU 94)) (f54 k) (Dc.row UU 67)) := by
  refine snd_fn (F := F54 (f57 k)) (fn := Try.f54) (body := bodyOf Try.f54) ⟨uu, tbl_ok ⟨snd57 k, trivial⟩, mixed⟩ (by kernel_rfl) (by kernel_rfl) (by kernel_rfl) rfl rfl rfl (fun a => Nat.le_of_ble_eq_true rfl) ?_
  intro a r h
  refine ⟨3000, k, ?_⟩
  rw [en54, show (fun q => evJ (F54 (f57 k)) 3000 k (td54 q) (em54 q)) = run (step54 (f57 k)) k from funext fun q => evJ_run _ _ _ (st54 (f57 k)) k q]
  exact h
noncomputable def F50 (g54 : (List S94) → Option ((List S94))) : Fn TT (S86) := ⟨Try.prog, UU, tbl [(54, W (Dl.one (Dc.row UU 94)) g54 (Dc.row UU 67))], Try.f50.ntmps, Try.f50.results.toList, [49], true, annOf [], finD (Dc.agg uu 49)⟩
noncomputable def start50 (g54 : (List S94) → Option ((List S94))) : S86 → Option (S86)
  | x0 => (((g54 (x0).f8)).bind fun r0 => (some (⟨(x0).f0, (x0).f1, (x0).f2, (x0).f3, (x0).f4, (x0).f5, (x0).f6, (x0).f7, r0⟩ : S86)))
noncomputable def f50 (k : Nat) : S86 → Option (S86) := start50 (f54 k)
theorem en50 (g54 : (List S94) → Option ((List S94))) (G : List Item → St TT → Option (S86)) (a : S86) : ev (F50 g54) G 3000 [.code (bodyOf Try.f50)] (st0 ((Dl.one (Dc.agg uu 86)).en a)) = start50 g54 a := by
  kernel_rfl
theorem snd50 (k : Nat) : Snd Try.prog UU 50 (W (Dl.one (Dc.agg uu 86)) (f50 k) (Dc.agg uu 49)) := by
  refine snd_fn (F := F50 (f54 k)) (fn := Try.f50) (body := bodyOf Try.f50) ⟨uu, tbl_ok ⟨snd54 k, trivial⟩, mixed⟩ (by kernel_rfl) (by kernel_rfl) (by kernel_rfl) rfl rfl rfl (fun a => Nat.le_of_ble_eq_true rfl) ?_
  intro a r h
  refine ⟨3000, k, ?_⟩
  rw [en50]
  exact h
noncomputable def F44 (g50 : S86 → Option (S86)) : Fn TT ((List S86)) := ⟨Try.prog, UU, tbl [(50, W (Dl.one (Dc.agg uu 86)) g50 (Dc.agg uu 49))], Try.f44.ntmps, Try.f44.results.toList, [42], true, annOf [(3, [0, 3, 4])], finD (Dc.row UU 49)⟩
inductive J44 where
  | j3 (x0 : (List S86)) (x1 : Int) (x2 : (List S86))
noncomputable def td44 : J44 → List Item
  | .j3 _ _ _ => fnd 3 (bodyOf Try.f44) []
noncomputable def em44 : J44 → St TT
  | .j3 x0 x1 x2 => ⟨[(0, .row 86 x0), (3, .own 0), (4, .v (.int .i64 x1))], [(0, .arr 49 x2)], 1⟩
noncomputable def step44 (g50 : S86 → Option (S86)) (go : J44 → Option ((List S86))) : J44 → Option ((List S86))
  | .j3 x0 x1 x2 => (cond (decide ((x1 : Int) < (((x0).length : Nat) : Int))) (cond (decide ((0 : Int) ≤ x1)) (cond (decide ((x1 : Int) < (((x0).length : Nat) : Int))) (((g50 ((rd86 x0 x1)))).bind fun r0 => (cond (decide ((0 : Int) ≤ x1)) (cond (decide ((x1 : Int) < (((x2).length : Nat) : Int))) (cond (decide ((0 : Int) ≤ x1)) (cond (decide ((x1 : Int) < (((x2).length : Nat) : Int))) (go (.j3 x0 (w64 (x1 + 1)) (List.set x2 (x1).toNat (r0)))) none) none) none) none)) none) none) (some x2))
noncomputable def start44 (g50 : S86 → Option (S86)) (go : J44 → Option ((List S86))) : (List S86) → Option ((List S86))
  | x0 => (cond (decide (((96 * (((x0).length : Nat) : Int)) : Int) ≤ 140737488355328)) (cond (decide (((((x0).length : Nat) : Int) : Int) ≤ 140737488355328)) (go (.j3 x0 0 (List.replicate ((((x0).length : Nat) : Int)).toNat (⟨0, 0, 0, 0, 0, 0, false, (⟨#[]⟩ : ByteArray), ([] : List S94)⟩ : S86)))) none) none)
noncomputable def f44 (k : Nat) : (List S86) → Option ((List S86)) := start44 (f50 k) (run (step44 (f50 k)) k)
theorem st44 (g50 : S86 → Option (S86)) (G : List Item → St TT → Option ((List S86))) (p : J44) : evFrom (F44 g50) G 3000 (td44 p) (em44 p) = step44 g50 (fun q => G (td44 q) (em44 q)) p := by
  cases p <;> kernel_rfl
theorem en44 (g50 : S86 → Option (S86)) (G : List Item → St TT → Option ((List S86))) (a : (List S86)) : ev (F44 g50) G 3000 [.code (bodyOf Try.f44)] (st0 ((Dl.one (Dc.row UU 86)).en a)) = start44 g50 (fun q => G (td44 q) (em44 q)) a := by
  kernel_rfl
theorem snd44 (k : Nat) : Snd Try.prog UU 44 (W (Dl.one (Dc.row UU 86)) (f44 k) (Dc.row UU 49)) := by
  refine snd_fn (F := F44 (f50 k)) (fn := Try.f44) (body := bodyOf Try.f44) ⟨uu, tbl_ok ⟨snd50 k, trivial⟩, mixed⟩ (by kernel_rfl) (by kernel_rfl) (by kernel_rfl) rfl rfl rfl (fun a => Nat.le_of_ble_eq_true rfl) ?_
  intro a r h
  refine ⟨3000, k, ?_⟩
  rw [en44, show (fun q => evJ (F44 (f50 k)) 3000 k (td44 q) (em44 q)) = run (step44 (f50 k)) k from funext fun q => evJ_run _ _ _ (st44 (f50 k)) k q]
  exact h
noncomputable def F32 (g44 : (List S86) → Option ((List S86))) : Fn TT (S63) := ⟨Try.prog, UU, tbl [(44, W (Dl.one (Dc.row UU 86)) g44 (Dc.row UU 49))], Try.f32.ntmps, Try.f32.results.toList, [44], true, annOf [], finD (Dc.agg uu 44)⟩
noncomputable def start32 (g44 : (List S86) → Option ((List S86))) : S63 → Option (S63)
  | x0 => (((g44 (x0).f0)).bind fun r0 => (some (⟨r0⟩ : S63)))
noncomputable def f32 (k : Nat) : S63 → Option (S63) := start32 (f44 k)
theorem en32 (g44 : (List S86) → Option ((List S86))) (G : List Item → St TT → Option (S63)) (a : S63) : ev (F32 g44) G 3000 [.code (bodyOf Try.f32)] (st0 ((Dl.one (Dc.agg uu 63)).en a)) = start32 g44 a := by
  kernel_rfl
theorem snd32 (k : Nat) : Snd Try.prog UU 32 (W (Dl.one (Dc.agg uu 63)) (f32 k) (Dc.agg uu 44)) := by
  refine snd_fn (F := F32 (f44 k)) (fn := Try.f32) (body := bodyOf Try.f32) ⟨uu, tbl_ok ⟨snd44 k, trivial⟩, mixed⟩ (by kernel_rfl) (by kernel_rfl) (by kernel_rfl) rfl rfl rfl (fun a => Nat.le_of_ble_eq_true rfl) ?_
  intro a r h
  refine ⟨3000, k, ?_⟩
  rw [en32]
  exact h
noncomputable def F17 (g32 : S63 → Option (S63)) : Fn TT ((List S63)) := ⟨Try.prog, UU, tbl [(32, W (Dl.one (Dc.agg uu 63)) g32 (Dc.agg uu 44))], Try.f17.ntmps, Try.f17.results.toList, [27], true, annOf [(3, [0, 3, 4])], finD (Dc.row UU 44)⟩
inductive J17 where
  | j3 (x0 : (List S63)) (x1 : Int) (x2 : (List S63))
noncomputable def td17 : J17 → List Item
  | .j3 _ _ _ => fnd 3 (bodyOf Try.f17) []
noncomputable def em17 : J17 → St TT
  | .j3 x0 x1 x2 => ⟨[(0, .row 63 x0), (3, .own 0), (4, .v (.int .i64 x1))], [(0, .arr 44 x2)], 1⟩
noncomputable def step17 (g32 : S63 → Option (S63)) (go : J17 → Option ((List S63))) : J17 → Option ((List S63))
  | .j3 x0 x1 x2 => (cond (decide ((x1 : Int) < (((x0).length : Nat) : Int))) (cond (decide ((0 : Int) ≤ x1)) (cond (decide ((x1 : Int) < (((x0).length : Nat) : Int))) (((g32 ((rd63 x0 x1)))).bind fun r0 => (cond (decide ((0 : Int) ≤ x1)) (cond (decide ((x1 : Int) < (((x2).length : Nat) : Int))) (cond (decide ((0 : Int) ≤ x1)) (cond (decide ((x1 : Int) < (((x2).length : Nat) : Int))) (go (.j3 x0 (w64 (x1 + 1)) (List.set x2 (x1).toNat (r0)))) none) none) none) none)) none) none) (some x2))
noncomputable def start17 (g32 : S63 → Option (S63)) (go : J17 → Option ((List S63))) : (List S63) → Option ((List S63))
  | x0 => (cond (decide (((24 * (((x0).length : Nat) : Int)) : Int) ≤ 140737488355328)) (cond (decide (((((x0).length : Nat) : Int) : Int) ≤ 140737488355328)) (go (.j3 x0 0 (List.replicate ((((x0).length : Nat) : Int)).toNat (⟨([] : List S86)⟩ : S63)))) none) none)
noncomputable def f17 (k : Nat) : (List S63) → Option ((List S63)) := start17 (f32 k) (run (step17 (f32 k)) k)
theorem st17 (g32 : S63 → Option (S63)) (G : List Item → St TT → Option ((List S63))) (p : J17) : evFrom (F17 g32) G 3000 (td17 p) (em17 p) = step17 g32 (fun q => G (td17 q) (em17 q)) p := by
  cases p <;> kernel_rfl
theorem en17 (g32 : S63 → Option (S63)) (G : List Item → St TT → Option ((List S63))) (a : (List S63)) : ev (F17 g32) G 3000 [.code (bodyOf Try.f17)] (st0 ((Dl.one (Dc.row UU 63)).en a)) = start17 g32 (fun q => G (td17 q) (em17 q)) a := by
  kernel_rfl
theorem snd17 (k : Nat) : Snd Try.prog UU 17 (W (Dl.one (Dc.row UU 63)) (f17 k) (Dc.row UU 44)) := by
  refine snd_fn (F := F17 (f32 k)) (fn := Try.f17) (body := bodyOf Try.f17) ⟨uu, tbl_ok ⟨snd32 k, trivial⟩, mixed⟩ (by kernel_rfl) (by kernel_rfl) (by kernel_rfl) rfl rfl rfl (fun a => Nat.le_of_ble_eq_true rfl) ?_
  intro a r h
  refine ⟨3000, k, ?_⟩
  rw [en17, show (fun q => evJ (F17 (f32 k)) 3000 k (td17 q) (em17 q)) = run (step17 (f32 k)) k from funext fun q => evJ_run _ _ _ (st17 (f32 k)) k q]
  exact h
noncomputable def F7 (g17 : (List S63) → Option ((List S63))) : Fn TT (S24) := ⟨Try.prog, UU, tbl [(17, W (Dl.one (Dc.row UU 63)) g17 (Dc.row UU 44))], Try.f7.ntmps, Try.f7.results.toList, [29], true, annOf [], finD (Dc.agg uu 29)⟩
noncomputable def start7 (g17 : (List S63) → Option ((List S63))) : S24 → Option (S24)
  | x0 => (((g17 (x0).f0)).bind fun r0 => (some (⟨r0, (x0).f1⟩ : S24)))
noncomputable def f7 (k : Nat) : S24 → Option (S24) := start7 (f17 k)
theorem en7 (g17 : (List S63) → Option ((List S63))) (G : List Item → St TT → Option (S24)) (a : S24) : ev (F7 g17) G 3000 [.code (bodyOf Try.f7)] (st0 ((Dl.one (Dc.agg uu 24)).en a)) = start7 g17 a := by
  kernel_rfl
theorem snd7 (k : Nat) : Snd Try.prog UU 7 (W (Dl.one (Dc.agg uu 24)) (f7 k) (Dc.agg uu 29)) := by
  refine snd_fn (F := F7 (f17 k)) (fn := Try.f7) (body := bodyOf Try.f7) ⟨uu, tbl_ok ⟨snd17 k, trivial⟩, mixed⟩ (by kernel_rfl) (by kernel_rfl) (by kernel_rfl) rfl rfl rfl (fun a => Nat.le_of_ble_eq_true rfl) ?_
  intro a r h
  refine ⟨3000, k, ?_⟩
  rw [en7]
  exact h
noncomputable def F58 : Fn TT (Bool) := ⟨Try.prog, UU, tbl [], Try.f58.ntmps, Try.f58.results.toList, [4], true, annOf [], finD (Dc.bool UU)⟩
noncomputable def start58 : S94 × S94 → Option (Bool)
  | (x0, x1) => (cond (!(((x0).f0).toList == ((x1).f0).toList)) (some false) (cond (((x0).f1 : Int) != (x1).f1) (some false) (some true)))
noncomputable def f58 (k : Nat) : S94 × S94 → Option (Bool) := start58
theorem en58 (G : List Item → St TT → Option (Bool)) (a : S94 × S94) : ev (F58) G 3000 [.code (bodyOf Try.f58)] (st0 ((Dl.cons (Dc.agg uu 67) (Dl.one (Dc.agg uu 67))).en a)) = start58 a := by
  obtain ⟨x0, x1⟩ := a
  kernel_rfl
theorem snd58 (k : Nat) : Snd Try.prog UU 58 (W (Dl.cons (Dc.agg uu 67) (Dl.one (Dc.agg uu 67))) (f58 k) (Dc.bool UU)) := by
  refine snd_fn (F := F58) (fn := Try.f58) (body := bodyOf Try.f58) ⟨uu, tbl_ok trivial, mixed⟩ (by kernel_rfl) (by kernel_rfl) (by kernel_rfl) rfl rfl rfl (fun a => Nat.le_of_ble_eq_true rfl) ?_
  intro a r h
  refine ⟨3000, k, ?_⟩
  rw [en58]
  exact h
noncomputable def F55 (g58 : S94 × S94 → Option (Bool)) : Fn TT (Bool) := ⟨Try.prog, UU, tbl [(58, W (Dl.cons (Dc.agg uu 67) (Dl.one (Dc.agg uu 67))) g58 (Dc.bool UU))], Try.f55.ntmps, Try.f55.results.toList, [4], true, annOf [(4, [0, 1, 5])], finD (Dc.bool UU)⟩
inductive J55 where
  | j4 (x0 : (List S94)) (x1 : (List S94)) (x2 : Int)
noncomputable def td55 : J55 → List Item
  | .j4 _ _ _ => fnd 4 (bodyOf Try.f55) []
noncomputable def em55 : J55 → St TT
  | .j4 x0 x1 x2 => ⟨[(0, .row 67 x0), (1, .row 67 x1), (5, .v (.int .i64 x2))], [], 0⟩
noncomputable def step55 (g58 : S94 × S94 → Option (Bool)) (go : J55 → Option (Bool)) : J55 → Option (Bool)
  | .j4 x0 x1 x2 => (cond (decide ((x2 : Int) < (((x0).length : Nat) : Int))) (cond (decide ((0 : Int) ≤ x2)) (cond (decide ((x2 : Int) < (((x0).length : Nat) : Int))) (cond (decide ((0 : Int) ≤ x2)) (cond (decide ((x2 : Int) < (((x1).length : Nat) : Int))) (((g58 (((rd67 x0 x2)), ((rd67 x1 x2))))).bind fun r0 => (cond (!r0) (some false) (go (.j4 x0 x1 (w64 (x2 + 1)))))) none) none) none) none) (some true))
noncomputable def start55 (g58 : S94 × S94 → Option (Bool)) (go : J55 → Option (Bool)) : (List S94) × (List S94) → Option (Bool)
  | (x0, x1) => (cond (((((x0).length : Nat) : Int) : Int) != (((x1).length : Nat) : Int)) (some false) (go (.j4 x0 x1 0)))
noncomputable def f55 (k : Nat) : (List S94) × (List S94) → Option (Bool) := start55 (f58 k) (run (step55 (f58 k)) k)
theorem st55 (g58 : S94 × S94 → Option (Bool)) (G : List Item → St TT → Option (Bool)) (p : J55) : evFrom (F55 g58) G 3000 (td55 p) (em55 p) = step55 g58 (fun q => G (td55 q) (em55 q)) p := by
  cases p <;> kernel_rfl
theorem en55 (g58 : S94 × S94 → Option (Bool)) (G : List Item → St TT → Option (Bool)) (a : (List S94) × (List S94)) : ev (F55 g58) G 3000 [.code (bodyOf Try.f55)] (st0 ((Dl.cons (Dc.row UU 67) (Dl.one (Dc.row UU 67))).en a)) = start55 g58 (fun q => G (td55 q) (em55 q)) a := by
  obtain ⟨x0, x1⟩ := a
  kernel_rfl
theorem snd55 (k : Nat) : Snd Try.prog UU 55 (W (Dl.cons (Dc.row UU 67) (Dl.one (Dc.row UU 67))) (f55 k) (Dc.bool UU)) := by
  refine snd_fn (F := F55 (f58 k)) (fn := Try.f55) (body := bodyOf Try.f55) ⟨uu, tbl_ok ⟨snd58 k, trivial⟩, mixed⟩ (by kernel_rfl) (by kernel_rfl) (by kernel_rfl) rfl rfl rfl (fun a => Nat.le_of_ble_eq_true rfl) ?_
  intro a r h
  refine ⟨3000, k, ?_⟩
  rw [en55, show (fun q => evJ (F55 (f58 k)) 3000 k (td55 q) (em55 q)) = run (step55 (f58 k)) k from funext fun q => evJ_run _ _ _ (st55 (f58 k)) k q]
  exact h
noncomputable def F52 (g55 : (List S94) × (List S94) → Option (Bool)) : Fn TT (Bool) := ⟨Try.prog, UU, tbl [(55, W (Dl.cons (Dc.row UU 67) (Dl.one (Dc.row UU 67))) g55 (Dc.bool UU))], Try.f52.ntmps, Try.f52.results.toList, [4], true, annOf [], finD (Dc.bool UU)⟩
noncomputable def start52 (g55 : (List S94) × (List S94) → Option (Bool)) : S86 × S86 → Option (Bool)
  | (x0, x1) => (cond (((x0).f0 : Int) != (x1).f0) (some false) (cond (((x0).f1 : Int) != (x1).f1) (some false) (cond (((x0).f2 : Int) != (x1).f2) (some false) (cond (((x0).f3 : Int) != (x1).f3) (some false) (cond (((x0).f4 : Int) != (x1).f4) (some false) (cond (((x0).f5 : Int) != (x1).f5) (some false) (cond (!((x0).f6 == (x1).f6)) (some false) (cond (!(((x0).f7).toList == ((x1).f7).toList)) (some false) (((g55 ((x0).f8, (x1).f8))).bind fun r0 => (cond (!r0) (some false) (some true)))))))))))
noncomputable def f52 (k : Nat) : S86 × S86 → Option (Bool) := start52 (f55 k)
theorem en52 (g55 : (List S94) × (List S94) → Option (Bool)) (G : List Item → St TT → Option (Bool)) (a : S86 × S86) : ev (F52 g55) G 3000 [.code (bodyOf Try.f52)] (st0 ((Dl.cons (Dc.agg uu 49) (Dl.one (Dc.agg uu 49))).en a)) = start52 g55 a := by
  obtain ⟨x0, x1⟩ := a
  kernel_rfl
theorem snd52 (k : Nat) : Snd Try.prog UU 52 (W (Dl.cons (Dc.agg uu 49) (Dl.one (Dc.agg uu 49))) (f52 k) (Dc.bool UU)) := by
  refine snd_fn (F := F52 (f55 k)) (fn := Try.f52) (body := bodyOf Try.f52) ⟨uu, tbl_ok ⟨snd55 k, trivial⟩, mixed⟩ (by kernel_rfl) (by kernel_rfl) (by kernel_rfl) rfl rfl rfl (fun a => Nat.le_of_ble_eq_true rfl) ?_
  intro a r h
  refine ⟨3000, k, ?_⟩
  rw [en52]
  exact h
noncomputable def F48 (g52 : S86 × S86 → Option (Bool)) : Fn TT (Bool) := ⟨Try.prog, UU, tbl [(52, W (Dl.cons (Dc.agg uu 49) (Dl.one (Dc.agg uu 49))) g52 (Dc.bool UU))], Try.f48.ntmps, Try.f48.results.toList, [4], true, annOf [(4, [0, 1, 5])], finD (Dc.bool UU)⟩
inductive J48 where
  | j4 (x0 : (List S86)) (x1 : (List S86)) (x2 : Int)
noncomputable def td48 : J48 → List Item
  | .j4 _ _ _ => fnd 4 (bodyOf Try.f48) []
noncomputable def em48 : J48 → St TT
  | .j4 x0 x1 x2 => ⟨[(0, .row 49 x0), (1, .row 49 x1), (5, .v (.int .i64 x2))], [], 0⟩
noncomputable def step48 (g52 : S86 × S86 → Option (Bool)) (go : J48 → Option (Bool)) : J48 → Option (Bool)
  | .j4 x0 x1 x2 => (cond (decide ((x2 : Int) < (((x0).length : Nat) : Int))) (cond (decide ((0 : Int) ≤ x2)) (cond (decide ((x2 : Int) < (((x0).length : Nat) : Int))) (cond (decide ((0 : Int) ≤ x2)) (cond (decide ((x2 : Int) < (((x1).length : Nat) : Int))) (((g52 (((rd49 x0 x2)), ((rd49 x1 x2))))).bind fun r0 => (cond (!r0) (some false) (go (.j4 x0 x1 (w64 (x2 + 1)))))) none) none) none) none) (some true))
noncomputable def start48 (g52 : S86 × S86 → Option (Bool)) (go : J48 → Option (Bool)) : (List S86) × (List S86) → Option (Bool)
  | (x0, x1) => (cond (((((x0).length : Nat) : Int) : Int) != (((x1).length : Nat) : Int)) (some false) (go (.j4 x0 x1 0)))
noncomputable def f48 (k : Nat) : (List S86) × (List S86) → Option (Bool) := start48 (f52 k) (run (step48 (f52 k)) k)
theorem st48 (g52 : S86 × S86 → Option (Bool)) (G : List Item → St TT → Option (Bool)) (p : J48) : evFrom (F48 g52) G 3000 (td48 p) (em48 p) = step48 g52 (fun q => G (td48 q) (em48 q)) p := by
  cases p <;> kernel_rfl
theorem en48 (g52 : S86 × S86 → Option (Bool)) (G : List Item → St TT → Option (Bool)) (a : (List S86) × (List S86)) : ev (F48 g52) G 3000 [.code (bodyOf Try.f48)] (st0 ((Dl.cons (Dc.row UU 49) (Dl.one (Dc.row UU 49))).en a)) = start48 g52 (fun q => G (td48 q) (em48 q)) a := by
  obtain ⟨x0, x1⟩ := a
  kernel_rfl
theorem snd48 (k : Nat) : Snd Try.prog UU 48 (W (Dl.cons (Dc.row UU 49) (Dl.one (Dc.row UU 49))) (f48 k) (Dc.bool UU)) := by
  refine snd_fn (F := F48 (f52 k)) (fn := Try.f48) (body := bodyOf Try.f48) ⟨uu, tbl_ok ⟨snd52 k, trivial⟩, mixed⟩ (by kernel_rfl) (by kernel_rfl) (by kernel_rfl) rfl rfl rfl (fun a => Nat.le_of_ble_eq_true rfl) ?_
  intro a r h
  refine ⟨3000, k, ?_⟩
  rw [en48, show (fun q => evJ (F48 (f52 k)) 3000 k (td48 q) (em48 q)) = run (step48 (f52 k)) k from funext fun q => evJ_run _ _ _ (st48 (f52 k)) k q]
  exact h
noncomputable def F37 (g48 : (List S86) × (List S86) → Option (Bool)) : Fn TT (Bool) := ⟨Try.prog, UU, tbl [(48, W (Dl.cons (Dc.row UU 49) (Dl.one (Dc.row UU 49))) g48 (Dc.bool UU))], Try.f37.ntmps, Try.f37.results.toList, [4], true, annOf [], finD (Dc.bool UU)⟩
noncomputable def start37 (g48 : (List S86) × (List S86) → Option (Bool)) : S63 × S63 → Option (Bool)
  | (x0, x1) => (((g48 ((x0).f0, (x1).f0))).bind fun r0 => (cond (!r0) (some false) (some true)))
noncomputable def f37 (k : Nat) : S63 × S63 → Option (Bool) := start37 (f48 k)
theorem en37 (g48 : (List S86) × (List S86) → Option (Bool)) (G : List Item → St TT → Option (Bool)) (a : S63 × S63) : ev (F37 g48) G 3000 [.code (bodyOf Try.f37)] (st0 ((Dl.cons (Dc.agg uu 44) (Dl.one (Dc.agg uu 44))).en a)) = start37 g48 a := by
  obtain ⟨x0, x1⟩ := a
  kernel_rfl
theorem snd37 (k : Nat) : Snd Try.prog UU 37 (W (Dl.cons (Dc.agg uu 44) (Dl.one (Dc.agg uu 44))) (f37 k) (Dc.bool UU)) := by
  refine snd_fn (F := F37 (f48 k)) (fn := Try.f37) (body := bodyOf Try.f37) ⟨uu, tbl_ok ⟨snd48 k, trivial⟩, mixed⟩ (by kernel_rfl) (by kernel_rfl) (by kernel_rfl) rfl rfl rfl (fun a => Nat.le_of_ble_eq_true rfl) ?_
  intro a r h
  refine ⟨3000, k, ?_⟩
  rw [en37]
  exact h
noncomputable def F21 (g37 : S63 × S63 → Option (Bool)) : Fn TT (Bool) := ⟨Try.prog, UU, tbl [(37, W (Dl.cons (Dc.agg uu 44) (Dl.one (Dc.agg uu 44))) g37 (Dc.bool UU))], Try.f21.ntmps, Try.f21.results.toList, [4], true, annOf [(4, [0, 1, 5])], finD (Dc.bool UU)⟩
inductive J21 where
  | j4 (x0 : (List S63)) (x1 : (List S63)) (x2 : Int)
noncomputable def td21 : J21 → List Item
  | .j4 _ _ _ => fnd 4 (bodyOf Try.f21) []
noncomputable def em21 : J21 → St TT
  | .j4 x0 x1 x2 => ⟨[(0, .row 44 x0), (1, .row 44 x1), (5, .v (.int .i64 x2))], [], 0⟩
noncomputable def step21 (g37 : S63 × S63 → Option (Bool)) (go : J21 → Option (Bool)) : J21 → Option (Bool)
  | .j4 x0 x1 x2 => (cond (decide ((x2 : Int) < (((x0).length : Nat) : Int))) (cond (decide ((0 : Int) ≤ x2)) (cond (decide ((x2 : Int) < (((x0).length : Nat) : Int))) (cond (decide ((0 : Int) ≤ x2)) (cond (decide ((x2 : Int) < (((x1).length : Nat) : Int))) (((g37 (((rd44 x0 x2)), ((rd44 x1 x2))))).bind fun r0 => (cond (!r0) (some false) (go (.j4 x0 x1 (w64 (x2 + 1)))))) none) none) none) none) (some true))
noncomputable def start21 (g37 : S63 × S63 → Option (Bool)) (go : J21 → Option (Bool)) : (List S63) × (List S63) → Option (Bool)
  | (x0, x1) => (cond (((((x0).length : Nat) : Int) : Int) != (((x1).length : Nat) : Int)) (some false) (go (.j4 x0 x1 0)))
noncomputable def f21 (k : Nat) : (List S63) × (List S63) → Option (Bool) := start21 (f37 k) (run (step21 (f37 k)) k)
theorem st21 (g37 : S63 × S63 → Option (Bool)) (G : List Item → St TT → Option (Bool)) (p : J21) : evFrom (F21 g37) G 3000 (td21 p) (em21 p) = step21 g37 (fun q => G (td21 q) (em21 q)) p := by
  cases p <;> kernel_rfl
theorem en21 (g37 : S63 × S63 → Option (Bool)) (G : List Item → St TT → Option (Bool)) (a : (List S63) × (List S63)) : ev (F21 g37) G 3000 [.code (bodyOf Try.f21)] (st0 ((Dl.cons (Dc.row UU 44) (Dl.one (Dc.row UU 44))).en a)) = start21 g37 (fun q => G (td21 q) (em21 q)) a := by
  obtain ⟨x0, x1⟩ := a
  kernel_rfl
theorem snd21 (k : Nat) : Snd Try.prog UU 21 (W (Dl.cons (Dc.row UU 44) (Dl.one (Dc.row UU 44))) (f21 k) (Dc.bool UU)) := by
  refine snd_fn (F := F21 (f37 k)) (fn := Try.f21) (body := bodyOf Try.f21) ⟨uu, tbl_ok ⟨snd37 k, trivial⟩, mixed⟩ (by kernel_rfl) (by kernel_rfl) (by kernel_rfl) rfl rfl rfl (fun a => Nat.le_of_ble_eq_true rfl) ?_
  intro a r h
  refine ⟨3000, k, ?_⟩
  rw [en21, show (fun q => evJ (F21 (f37 k)) 3000 k (td21 q) (em21 q)) = run (step21 (f37 k)) k from funext fun q => evJ_run _ _ _ (st21 (f37 k)) k q]
  exact h
noncomputable def F9 (g21 : (List S63) × (List S63) → Option (Bool)) : Fn TT (Bool) := ⟨Try.prog, UU, tbl [(21, W (Dl.cons (Dc.row UU 44) (Dl.one (Dc.row UU 44))) g21 (Dc.bool UU))], Try.f9.ntmps, Try.f9.results.toList, [4], true, annOf [], finD (Dc.bool UU)⟩
noncomputable def start9 (g21 : (List S63) × (List S63) → Option (Bool)) : S24 × S24 → Option (Bool)
  | (x0, x1) => (((g21 ((x0).f0, (x1).f0))).bind fun r0 => (cond (!r0) (some false) (cond (((x0).f1 : Int) != (x1).f1) (some false) (some true))))
noncomputable def f9 (k : Nat) : S24 × S24 → Option (Bool) := start9 (f21 k)
theorem en9 (g21 : (List S63) × (List S63) → Option (Bool)) (G : List Item → St TT → Option (Bool)) (a : S24 × S24) : ev (F9 g21) G 3000 [.code (bodyOf Try.f9)] (st0 ((Dl.cons (Dc.agg uu 29) (Dl.one (Dc.agg uu 29))).en a)) = start9 g21 a := by
  obtain ⟨x0, x1⟩ := a
  kernel_rfl
theorem snd9 (k : Nat) : Snd Try.prog UU 9 (W (Dl.cons (Dc.agg uu 29) (Dl.one (Dc.agg uu 29))) (f9 k) (Dc.bool UU)) := by
  refine snd_fn (F := F9 (f21 k)) (fn := Try.f9) (body := bodyOf Try.f9) ⟨uu, tbl_ok ⟨snd21 k, trivial⟩, mixed⟩ (by kernel_rfl) (by kernel_rfl) (by kernel_rfl) rfl rfl rfl (fun a => Nat.le_of_ble_eq_true rfl) ?_
  intro a r h
  refine ⟨3000, k, ?_⟩
  rw [en9]
  exact h
noncomputable def F15 : Fn TT (Bool) := ⟨Try.prog, UU, tbl [], Try.f15.ntmps, Try.f15.results.toList, [4], true, annOf [], finD (Dc.bool UU)⟩
noncomputable def start15 : Int × Int × Int → Option (Bool)
  | (x0, x1, x2) => (cond (decide ((x0 : Int) ≥ x1)) (some (decide ((x0 : Int) ≤ x2))) (some false))
noncomputable def f15 (k : Nat) : Int × Int × Int → Option (Bool) := start15
theorem en15 (G : List Item → St TT → Option (Bool)) (a : Int × Int × Int) : ev (F15) G 3000 [.code (bodyOf Try.f15)] (st0 ((Dl.cons (Dc.int UU .i64) (Dl.cons (Dc.int UU .i64) (Dl.one (Dc.int UU .i64)))).en a)) = start15 a := by
  obtain ⟨x0, x1, x2⟩ := a
  kernel_rfl
theorem snd15 (k : Nat) : Snd Try.prog UU 15 (W (Dl.cons (Dc.int UU .i64) (Dl.cons (Dc.int UU .i64) (Dl.one (Dc.int UU .i64)))) (f15 k) (Dc.bool UU)) := by
  refine snd_fn (F := F15) (fn := Try.f15) (body := bodyOf Try.f15) ⟨uu, tbl_ok trivial, mixed⟩ (by kernel_rfl) (by kernel_rfl) (by kernel_rfl) rfl rfl rfl (fun a => Nat.le_of_ble_eq_true rfl) ?_
  intro a r h
  refine ⟨3000, k, ?_⟩
  rw [en15]
  exact h
noncomputable def F42 (g15 : Int × Int × Int → Option (Bool)) : Fn TT (Bool) := ⟨Try.prog, UU, tbl [(15, W (Dl.cons (Dc.int UU .i64) (Dl.cons (Dc.int UU .i64) (Dl.one (Dc.int UU .i64)))) g15 (Dc.bool UU))], Try.f42.ntmps, Try.f42.results.toList, [4], true, annOf [], finD (Dc.bool UU)⟩
noncomputable def start42 (g15 : Int × Int × Int → Option (Bool)) : Int → Option (Bool)
  | x0 => (((g15 (x0, (0, 9)))).bind fun r0 => (some r0))
noncomputable def f42 (k : Nat) : Int → Option (Bool) := start42 (f15 k)
theorem en42 (g15 : Int × Int × Int → Option (Bool)) (G : List Item → St TT → Option (Bool)) (a : Int) : ev (F42 g15) G 3000 [.code (bodyOf Try.f42)] (st0 ((Dl.one (Dc.int UU .i64)).en a)) = start42 g15 a := by
  kernel_rfl
theorem snd42 (k : Nat) : Snd Try.prog UU 42 (W (Dl.one (Dc.int UU .i64)) (f42 k) (Dc.bool UU)) := by
  refine snd_fn (F := F42 (f15 k)) (fn := Try.f42) (body := bodyOf Try.f42) ⟨uu, tbl_ok ⟨snd15 k, trivial⟩, mixed⟩ (by kernel_rfl) (by kernel_rfl) (by kernel_rfl) rfl rfl rfl (fun a => Nat.le_of_ble_eq_true rfl) ?_
  intro a r h
  refine ⟨3000, k, ?_⟩
  rw [en42]
  exact h
noncomputable def F43 (g15 : Int × Int × Int → Option (Bool)) : Fn TT (Bool) := ⟨Try.prog, UU, tbl [(15, W (Dl.cons (Dc.int UU .i64) (Dl.cons (Dc.int UU .i64) (Dl.one (Dc.int UU .i64)))) g15 (Dc.bool UU))], Try.f43.ntmps, Try.f43.results.toList, [4], true, annOf [(2, [0, 3]), (3, [0, 3])], finD (Dc.bool UU)⟩
inductive J43 where
  | j2 (x0 : ByteArray) (x1 : Int)
  | j3 (x0 : ByteArray) (x1 : Int)
noncomputable def td43 : J43 → List Item
  | .j2 _ _ => fnd 2 (bodyOf Try.f43) []
  | .j3 _ _ => fnd 3 (bodyOf Try.f43) []
noncomputable def em43 : J43 → St TT
  | .j2 x0 x1 => ⟨[(0, .v (.string x0)), (3, .v (.int .i64 x1))], [], 0⟩
  | .j3 x0 x1 => ⟨[(0, .v (.string x0)), (3, .v (.int .i64 x1))], [], 0⟩
noncomputable def step43 (g15 : Int × Int × Int → Option (Bool)) (go : J43 → Option (Bool)) : J43 → Option (Bool)
  | .j2 x0 x1 => (cond (decide ((x1 : Int) < (((x0).size : Nat) : Int))) (cond (decide ((0 : Int) ≤ x1)) (cond (decide ((x1 : Int) < (((x0).size : Nat) : Int))) (cond (decide (((bt x0 x1) : Int) < 97)) (some false) (cond (decide ((0 : Int) ≤ x1)) (cond (decide ((x1 : Int) < (((x0).size : Nat) : Int))) (cond (decide (((bt x0 x1) : Int) > 122)) (some false) (go (.j3 x0 x1))) none) none)) none) none) (((g15 ((((x0).size : Nat) : Int), (1, 3)))).bind fun r0 => (some r0)))
  | .j3 x0 x1 => (go (.j2 x0 (w64 (x1 + 1))))
noncomputable def start43 (g15 : Int × Int × Int → Option (Bool)) (go : J43 → Option (Bool)) : ByteArray → Option (Bool)
  | x0 => (go (.j2 x0 0))
noncomputable def f43 (k : Nat) : ByteArray → Option (Bool) := start43 (f15 k) (run (step43 (f15 k)) k)
theorem st43 (g15 : Int × Int × Int → Option (Bool)) (G : List Item → St TT → Option (Bool)) (p : J43) : evFrom (F43 g15) G 3000 (td43 p) (em43 p) = step43 g15 (fun q => G (td43 q) (em43 q)) p := by
  cases p <;> kernel_rfl
theorem en43 (g15 : Int × Int × Int → Option (Bool)) (G : List Item → St TT → Option (Bool)) (a : ByteArray) : ev (F43 g15) G 3000 [.code (bodyOf Try.f43)] (st0 ((Dl.one (Dc.str UU)).en a)) = start43 g15 (fun q => G (td43 q) (em43 q)) a := by
  kernel_rfl
theorem snd43 (k : Nat) : Snd Try.prog UU 43 (W (Dl.one (Dc.str UU)) (f43 k) (Dc.bool UU)) := by
  refine snd_fn (F := F43 (f15 k)) (fn := Try.f43) (body := bodyOf Try.f43) ⟨uu, tbl_ok ⟨snd15 k, trivial⟩, mixed⟩ (by kernel_rfl) (by kernel_rfl) (by kernel_rfl) rfl rfl rfl (fun a => Nat.le_of_ble_eq_true rfl) ?_
  intro a r h
  refine ⟨3000, k, ?_⟩
  rw [en43, show (fun q => evJ (F43 (f15 k)) 3000 k (td43 q) (em43 q)) = run (step43 (f15 k)) k from funext fun q => evJ_run _ _ _ (st43 (f15 k)) k q]
  exact h
noncomputable def F41 : Fn TT (Bool) := ⟨Try.prog, UU, tbl [], Try.f41.ntmps, Try.f41.results.toList, [4], true, annOf [], finD (Dc.bool UU)⟩
noncomputable def start41 : S86 → Option (Bool)
  | x0 => (cond (((x0).f0 : Int) == 0) (cond (((x0).f1 : Int) == 0) (cond (((x0).f2 : Int) == 0) (cond (((x0).f3 : Int) == 0) (cond (((x0).f4 : Int) == 0) (cond (((x0).f5 : Int) == 0) (cond (!(x0).f6) (cond (((x0).f7).toList == ((⟨#[]⟩ : ByteArray)).toList) (some ((((((x0).f8).length : Nat) : Int) : Int) == 0)) (some false)) (some false)) (some false)) (some false)) (some false)) (some false)) (some false)) (some false))
noncomputable def f41 (k : Nat) : S86 → Option (Bool) := start41
theorem en41 (G : List Item → St TT → Option (Bool)) (a : S86) : ev (F41) G 3000 [.code (bodyOf Try.f41)] (st0 ((Dl.one (Dc.agg uu 49)).en a)) = start41 a := by
  kernel_rfl
theorem snd41 (k : Nat) : Snd Try.prog UU 41 (W (Dl.one (Dc.agg uu 49)) (f41 k) (Dc.bool UU)) := by
  refine snd_fn (F := F41) (fn := Try.f41) (body := bodyOf Try.f41) ⟨uu, tbl_ok trivial, mixed⟩ (by kernel_rfl) (by kernel_rfl) (by kernel_rfl) rfl rfl rfl (fun a => Nat.le_of_ble_eq_true rfl) ?_
  intro a r h
  refine ⟨3000, k, ?_⟩
  rw [en41]
  exact h
noncomputable def F30 (g42 : Int → Option (Bool)) (g15 : Int × Int × Int → Option (Bool)) (g43 : ByteArray → Option (Bool)) (g41 : S86 → Option (Bool)) : Fn TT (Bool) := ⟨Try.prog, UU, tbl [(42, W (Dl.one (Dc.int UU .i64)) g42 (Dc.bool UU)), (15, W (Dl.cons (Dc.int UU .i64) (Dl.cons (Dc.int UU .i64) (Dl.one (Dc.int UU .i64)))) g15 (Dc.bool UU)), (43, W (Dl.one (Dc.str UU)) g43 (Dc.bool UU)), (41, W (Dl.one (Dc.agg uu 49)) g41 (Dc.bool UU))], Try.f30.ntmps, Try.f30.results.toList, [4], true, annOf [(5, [1]), (7, [1]), (8, [1, 3]), (9, [1, 3])], finD (Dc.bool UU)⟩
inductive J30 where
  | j5 (x0 : Int) (x1 : Int) (x2 : Int) (x3 : Int) (x4 : Int) (x5 : Int) (x6 : Bool) (x7 : ByteArray) (x8 : (List S94))
  | j7 (x0 : Int) (x1 : Int) (x2 : Int) (x3 : Int) (x4 : Int) (x5 : Int) (x6 : Bool) (x7 : ByteArray) (x8 : (List S94))
  | j8 (x0 : Int) (x1 : Int) (x2 : Int) (x3 : Int) (x4 : Int) (x5 : Int) (x6 : Int) (x7 : Bool) (x8 : ByteArray) (x9 : (List S94))
  | j9 (x0 : Int) (x1 : Int) (x2 : Int) (x3 : Int) (x4 : Int) (x5 : Int) (x6 : Int) (x7 : Bool) (x8 : ByteArray) (x9 : (List S94))
noncomputable def td30 : J30 → List Item
  | .j5 _ _ _ _ _ _ _ _ _ => fnd 5 (bodyOf Try.f30) []
  | .j7 _ _ _ _ _ _ _ _ _ => fnd 7 (bodyOf Try.f30) []
  | .j8 _ _ _ _ _ _ _ _ _ _ => fnd 8 (bodyOf Try.f30) []
  | .j9 _ _ _ _ _ _ _ _ _ _ => fnd 9 (bodyOf Try.f30) []
noncomputable def em30 : J30 → St TT
  | .j5 x0 x1 x2 x3 x4 x5 x6 x7 x8 => ⟨[(1, .ptr 0 0)], [(0, .cells 49 [.v (.int .i64 x0), .v (.int .i64 x1), .v (.int .i64 x2), .v (.int .i64 x3), .v (.int .i64 x4), .v (.int .i64 x5), .v (.bool x6), .v (.string x7), .row 67 x8])], 1⟩
  | .j7 x0 x1 x2 x3 x4 x5 x6 x7 x8 => ⟨[(1, .ptr 0 0)], [(0, .cells 49 [.v (.int .i64 x0), .v (.int .i64 x1), .v (.int .i64 x2), .v (.int .i64 x3), .v (.int .i64 x4), .v (.int .i64 x5), .v (.bool x6), .v (.string x7), .row 67 x8])], 1⟩
  | .j8 x0 x1 x2 x3 x4 x5 x6 x7 x8 x9 => ⟨[(1, .ptr 0 0), (3, .v (.int .i64 x0))], [(0, .cells 49 [.v (.int .i64 x1), .v (.int .i64 x2), .v (.int .i64 x3), .v (.int .i64 x4), .v (.int .i64 x5), .v (.int .i64 x6), .v (.bool x7), .v (.string x8), .row 67 x9])], 1⟩
  | .j9 x0 x1 x2 x3 x4 x5 x6 x7 x8 x9 => ⟨[(1, .ptr 0 0), (3, .v (.int .i64 x0))], [(0, .cells 49 [.v (.int .i64 x1), .v (.int .i64 x2), .v (.int .i64 x3), .v (.int .i64 x4), .v (.int .i64 x5), .v (.int .i64 x6), .v (.bool x7), .v (.string x8), .row 67 x9])], 1⟩
noncomputable def step30 (g42 : Int → Option (Bool)) (g15 : Int × Int × Int → Option (Bool)) (g43 : ByteArray → Option (Bool)) (g41 : S86 → Option (Bool)) (go : J30 → Option (Bool)) : J30 → Option (Bool)
  | .j5 x0 x1 x2 x3 x4 x5 x6 x7 x8 => (cond ((x0 : Int) == 2) (cond (!((x7).toList == ((⟨#[]⟩ : ByteArray)).toList)) (some false) (cond x6 (some false) (cond ((x0 : Int) == 1) (cond (decide (((((x8).length : Nat) : Int) : Int) > 0)) (some false) (go (.j7 x0 x1 x2 x3 x4 x5 x6 x7 x8))) (go (.j7 x0 x1 x2 x3 x4 x5 x6 x7 x8))))) (cond ((x0 : Int) == 1) (cond (decide (((((x8).length : Nat) : Int) : Int) > 0)) (some false) (go (.j7 x0 x1 x2 x3 x4 x5 x6 x7 x8))) (go (.j7 x0 x1 x2 x3 x4 x5 x6 x7 x8))))
  | .j7 x0 x1 x2 x3 x4 x5 x6 x7 x8 => (go (.j8 0 x0 x1 x2 x3 x4 x5 x6 x7 x8))
  | .j8 x0 x1 x2 x3 x4 x5 x6 x7 x8 x9 => (cond (decide ((x0 : Int) < (((x9).length : Nat) : Int))) (cond (decide ((0 : Int) ≤ x0)) (cond (decide ((x0 : Int) < (((x9).length : Nat) : Int))) (((g43 ((rd67 x9 x0)).f0)).bind fun r7 => (cond (!r7) (some false) (((g15 (((rd67 x9 x0)).f1, (1, 9)))).bind fun r8 => (cond (!r8) (some false) (cond (decide ((x0 : Int) > 0)) (cond (decide ((0 : Int) ≤ (w64 (x0 - 1)))) (cond (decide (((w64 (x0 - 1)) : Int) < (((x9).length : Nat) : Int))) (cond (!(Go.Op.bytesLess (((rd67 x9 (w64 (x0 - 1)))).f0).toList (((rd67 x9 x0)).f0).toList)) (some false) (go (.j9 x0 x1 x2 x3 x4 x5 x6 x7 x8 x9))) none) none) (go (.j9 x0 x1 x2 x3 x4 x5 x6 x7 x8 x9))))))) none) none) (some true))
  | .j9 x0 x1 x2 x3 x4 x5 x6 x7 x8 x9 => (go (.j8 (w64 (x0 + 1)) x1 x2 x3 x4 x5 x6 x7 x8 x9))
noncomputable def start30 (g42 : Int → Option (Bool)) (g15 : Int × Int × Int → Option (Bool)) (g43 : ByteArray → Option (Bool)) (g41 : S86 → Option (Bool)) (go : J30 → Option (Bool)) : S86 → Option (Bool)
  | x0 => (cond (((x0).f0 : Int) == 0) (((g41 (x0))).bind fun r0 => (some r0)) (((g15 ((x0).f0, (1, 2)))).bind fun r1 => (cond (!r1) (some false) (((g15 ((x0).f1, (0, 511)))).bind fun r2 => (cond (!r2) (some false) (((g42 (x0).f2)).bind fun r3 => (cond (!r3) (some false) (((g42 (x0).f3)).bind fun r4 => (cond (!r4) (some false) (((g15 ((x0).f5, (0, 99)))).bind fun r5 => (cond (!r5) (some false) (((g15 ((x0).f4, (0, 99)))).bind fun r6 => (cond (!r6) (some false) (cond (decide ((((((x0).f7).size : Nat) : Int) : Int) > 40)) (some false) (cond (decide ((((((x0).f8).length : Nat) : Int) : Int) > 6)) (some false) (go (.j5 (x0).f0 (x0).f1 (x0).f2 (x0).f3 (x0).f4 (x0).f5 (x0).f6 (x0).f7 (x0).f8)))))))))))))))))
noncomputable def f30 (k : Nat) : S86 → Option (Bool) := start30 (f42 k) (f15 k) (f43 k) (f41 k) (run (step30 (f42 k) (f15 k) (f43 k) (f41 k)) k)
theorem st30 (g42 : Int → Option (Bool)) (g15 : Int × Int × Int → Option (Bool)) (g43 : ByteArray → Option (Bool)) (g41 : S86 → Option (Bool)) (G : List Item → St TT → Option (Bool)) (p : J30) : evFrom (F30 g42 g15 g43 g41) G 3000 (td30 p) (em30 p) = step30 g42 g15 g43 g41 (fun q => G (td30 q) (em30 q)) p := by
  cases p <;> kernel_rfl
theorem en30 (g42 : Int → Option (Bool)) (g15 : Int × Int × Int → Option (Bool)) (g43 : ByteArray → Option (Bool)) (g41 : S86 → Option (Bool)) (G : List Item → St TT → Option (Bool)) (a : S86) : ev (F30 g42 g15 g43 g41) G 3000 [.code (bodyOf Try.f30)] (st0 ((Dl.one (Dc.agg uu 49)).en a)) = start30 g42 g15 g43 g41 (fun q => G (td30 q) (em30 q)) a := by
  kernel_rfl
theorem snd30 (k : Nat) : Snd Try.prog UU 30 (W (Dl.one (Dc.agg uu 49)) (f30 k) (Dc.bool UU)) := by
  refine snd_fn (F := F30 (f42 k) (f15 k) (f43 k) (f41 k)) (fn := Try.f30) (body := bodyOf Try.f30) ⟨uu, tbl_ok ⟨snd42 k, snd15 k, snd43 k, snd41 k, trivial⟩, mixed⟩ (by kernel_rfl) (by kernel_rfl) (by kernel_rfl) rfl rfl rfl (fun a => Nat.le_of_ble_eq_true rfl) ?_
  intro a r h
  refine ⟨3000, k, ?_⟩
  rw [en30, show (fun q => evJ (F30 (f42 k) (f15 k) (f43 k) (f41 k)) 3000 k (td30 q) (em30 q)) = run (step30 (f42 k) (f15 k) (f43 k) (f41 k)) k from funext fun q => evJ_run _ _ _ (st30 (f42 k) (f15 k) (f43 k) (f41 k)) k q]
  exact h
noncomputable def F31 : Fn TT ((List Bool) × Bool) := ⟨Try.prog, UU, tbl [], Try.f31.ntmps, Try.f31.results.toList, [68, 4], true, annOf [(3, [1, 4, 5]), (10, [1, 4, 5, 6, 7]), (11, [1, 4, 5, 6, 7])], finD (Dc.tup (Dl.cons (Dc.row UU 4) (Dl.one (Dc.bool UU))))⟩
inductive J31 where
  | j3 (x0 : (List S86)) (x1 : (List Bool)) (x2 : (List Int))
  | j10 (x0 : Int) (x1 : Int) (x2 : (List S86)) (x3 : (List Bool)) (x4 : (List Int))
  | j11 (x0 : Int) (x1 : Int) (x2 : (List S86)) (x3 : (List Bool)) (x4 : (List Int))
noncomputable def td31 : J31 → List Item
  | .j3 _ _ _ => fnd 3 (bodyOf Try.f31) []
  | .j10 _ _ _ _ _ => fnd 10 (bodyOf Try.f31) []
  | .j11 _ _ _ _ _ => fnd 11 (bodyOf Try.f31) []
noncomputable def em31 : J31 → St TT
  | .j3 x0 x1 x2 => ⟨[(1, .ptr 0 0), (4, .own 1), (5, .own 2)], [(0, .cells 44 [.row 49 x0]), (1, .arr 4 x1), (2, .arr 3 x2)], 3⟩
  | .j10 x0 x1 x2 x3 x4 => ⟨[(1, .ptr 0 0), (4, .own 1), (5, .own 2), (6, .v (.int .i64 x0)), (7, .v (.int .i64 x1))], [(0, .cells 44 [.row 49 x2]), (1, .arr 4 x3), (2, .arr 3 x4)], 3⟩
  | .j11 x0 x1 x2 x3 x4 => ⟨[(1, .ptr 0 0), (4, .own 1), (5, .own 2), (6, .v (.int .i64 x0)), (7, .v (.int .i64 x1))], [(0, .cells 44 [.row 49 x2]), (1, .arr 4 x3), (2, .arr 3 x4)], 3⟩
noncomputable def step31 (go : J31 → Option ((List Bool) × Bool)) : J31 → Option ((List Bool) × Bool)
  | .j3 x0 x1 x2 => (cond (decide (((((x2).length : Nat) : Int) : Int) > 0)) (cond (decide ((0 : Int) < (((x2).length : Nat) : Int))) (cond (decide ((0 : Int) < (((x2).length : Nat) : Int))) (cond (decide ((1 : Int) ≤ (((x2).length : Nat) : Int))) (cond (decide ((((([] : List Int)).length + ((List.drop 1 (List.take (x2).length x2))).length) * 8) ≤ 140737488355328)) (cond (decide ((0 : Int) ≤ (rd3 x2 0))) (cond (decide (((rd3 x2 0) : Int) < (((x1).length : Nat) : Int))) (cond (decide ((0 : Int) ≤ (rd3 x2 0))) (cond (decide (((rd3 x2 0) : Int) < (((x1).length : Nat) : Int))) (cond (rd4 x1 (rd3 x2 0)) (some (x1, false)) (cond (decide ((0 : Int) ≤ (rd3 x2 0))) (cond (decide (((rd3 x2 0) : Int) < (((x1).length : Nat) : Int))) (cond (decide ((0 : Int) ≤ (rd3 x2 0))) (cond (decide (((rd3 x2 0) : Int) < (((x1).length : Nat) : Int))) (go (.j10 (rd3 x2 0) 0 x0 (List.set x1 ((rd3 x2 0)).toNat true) (([] : List Int) ++ (List.drop 1 (List.take (x2).length x2))))) none) none) none) none)) none) none) none) none) none) none) none) none) (some (x1, true)))
  | .j10 x0 x1 x2 x3 x4 => (cond (decide ((0 : Int) ≤ x0)) (cond (decide ((x0 : Int) < (((x2).length : Nat) : Int))) (cond (decide ((x1 : Int) < (((((rd49 x2 x0)).f8).length : Nat) : Int))) (cond (decide ((0 : Int) ≤ x0)) (cond (decide ((x0 : Int) < (((x2).length : Nat) : Int))) (cond (decide ((0 : Int) ≤ x1)) (cond (decide ((x1 : Int) < (((((rd49 x2 x0)).f8).length : Nat) : Int))) (cond (decide ((0 : Int) ≤ ((rd67 ((rd49 x2 x0)).f8 x1)).f1)) (cond (decide ((((rd67 ((rd49 x2 x0)).f8 x1)).f1 : Int) < (((x2).length : Nat) : Int))) (cond ((((rd49 x2 ((rd67 ((rd49 x2 x0)).f8 x1)).f1)).f0 : Int) == 2) (cond (decide ((((x4).length + ([((rd67 ((rd49 x2 x0)).f8 x1)).f1]).length) * 8) ≤ 140737488355328)) (go (.j11 x0 x1 x2 x3 (x4 ++ [((rd67 ((rd49 x2 x0)).f8 x1)).f1]))) none) (go (.j11 x0 x1 x2 x3 x4))) none) none) none) none) none) none) (go (.j3 x2 x3 x4))) none) none)
  | .j11 x0 x1 x2 x3 x4 => (go (.j10 x0 (w64 (x1 + 1)) x2 x3 x4))
noncomputable def start31 (go : J31 → Option ((List Bool) × Bool)) : S63 → Option ((List Bool) × Bool)
  | x0 => (cond (decide (((1 * ((((x0).f0).length : Nat) : Int)) : Int) ≤ 140737488355328)) (cond (decide ((((((x0).f0).length : Nat) : Int) : Int) ≤ 140737488355328)) (go (.j3 (x0).f0 (List.replicate (((((x0).f0).length : Nat) : Int)).toNat false) [0])) none) none)
noncomputable def f31 (k : Nat) : S63 → Option ((List Bool) × Bool) := start31 (run (step31) k)
theorem st31 (G : List Item → St TT → Option ((List Bool) × Bool)) (p : J31) : evFrom (F31) G 3000 (td31 p) (em31 p) = step31 (fun q => G (td31 q) (em31 q)) p := by
  cases p <;> kernel_rfl
theorem en31 (G : List Item → St TT → Option ((List Bool) × Bool)) (a : S63) : ev (F31) G 3000 [.code (bodyOf Try.f31)] (st0 ((Dl.one (Dc.agg uu 44)).en a)) = start31 (fun q => G (td31 q) (em31 q)) a := by
  kernel_rfl
theorem snd31 (k : Nat) : Snd Try.prog UU 31 (W (Dl.one (Dc.agg uu 44)) (f31 k) (Dc.tup (Dl.cons (Dc.row UU 4) (Dl.one (Dc.bool UU))))) := by
  refine snd_fn (F := F31) (fn := Try.f31) (body := bodyOf Try.f31) ⟨uu, tbl_ok trivial, mixed⟩ (by kernel_rfl) (by kernel_rfl) (by kernel_rfl) rfl rfl rfl (fun a => Nat.le_of_ble_eq_true rfl) ?_
  intro a r h
  refine ⟨3000, k, ?_⟩
  rw [en31, show (fun q => evJ (F31) 3000 k (td31 q) (em31 q)) = run (step31) k from funext fun q => evJ_run _ _ _ (st31) k q]
  exact h
noncomputable def F14 (g30 : S86 → Option (Bool)) (g31 : S63 → Option ((List Bool) × Bool)) : Fn TT (Bool) := ⟨Try.prog, UU, tbl [(30, W (Dl.one (Dc.agg uu 49)) g30 (Dc.bool UU)), (31, W (Dl.one (Dc.agg uu 44)) g31 (Dc.tup (Dl.cons (Dc.row UU 4) (Dl.one (Dc.bool UU)))))], Try.f14.ntmps, Try.f14.results.toList, [4], true, annOf [(5, [1, 3, 4]), (10, [1, 3, 4, 5]), (17, [1, 3, 6, 7, 8]), (19, [1, 3, 6, 7, 8]), (18, [1, 3, 6, 7, 8])], finD (Dc.bool UU)⟩
inductive J14 where
  | j5 (x0 : Int) (x1 : (List S86)) (x2 : (List Int))
  | j10 (x0 : Int) (x1 : Int) (x2 : (List S86)) (x3 : (List Int))
  | j17 (x0 : (List Bool)) (x1 : Bool) (x2 : Int) (x3 : (List S86)) (x4 : (List Int))
  | j19 (x0 : (List Bool)) (x1 : Bool) (x2 : Int) (x3 : (List S86)) (x4 : (List Int))
  | j18 (x0 : (List Bool)) (x1 : Bool) (x2 : Int) (x3 : (List S86)) (x4 : (List Int))
noncomputable def td14 : J14 → List Item
  | .j5 _ _ _ => fnd 5 (bodyOf Try.f14) []
  | .j10 _ _ _ _ => fnd 10 (bodyOf Try.f14) []
  | .j17 _ _ _ _ _ => fnd 17 (bodyOf Try.f14) []
  | .j19 _ _ _ _ _ => fnd 19 (bodyOf Try.f14) []
  | .j18 _ _ _ _ _ => fnd 18 (bodyOf Try.f14) []
noncomputable def em14 : J14 → St TT
  | .j5 x0 x1 x2 => ⟨[(1, .ptr 0 0), (3, .own 1), (4, .v (.int .i64 x0))], [(0, .cells 44 [.row 49 x1]), (1, .arr 3 x2)], 2⟩
  | .j10 x0 x1 x2 x3 => ⟨[(1, .ptr 0 0), (3, .own 1), (4, .v (.int .i64 x0)), (5, .v (.int .i64 x1))], [(0, .cells 44 [.row 49 x2]), (1, .arr 3 x3)], 2⟩
  | .j17 x0 x1 x2 x3 x4 => ⟨[(1, .ptr 0 0), (3, .own 1), (6, .row 4 x0), (7, .v (.bool x1)), (8, .v (.int .i64 x2))], [(0, .cells 44 [.row 49 x3]), (1, .arr 3 x4)], 2⟩
  | .j19 x0 x1 x2 x3 x4 => ⟨[(1, .ptr 0 0), (3, .own 1), (6, .row 4 x0), (7, .v (.bool x1)), (8, .v (.int .i64 x2))], [(0, .cells 44 [.row 49 x3]), (1, .arr 3 x4)], 2⟩
  | .j18 x0 x1 x2 x3 x4 => ⟨[(1, .ptr 0 0), (3, .own 1), (6, .row 4 x0), (7, .v (.bool x1)), (8, .v (.int .i64 x2))], [(0, .cells 44 [.row 49 x3]), (1, .arr 3 x4)], 2⟩
noncomputable def step14 (g30 : S86 → Option (Bool)) (g31 : S63 → Option ((List Bool) × Bool)) (go : J14 → Option (Bool)) : J14 → Option (Bool)
  | .j5 x0 x1 x2 => (cond (decide ((x0 : Int) < 10)) (cond (decide ((0 : Int) ≤ x0)) (cond (decide ((x0 : Int) < (((x1).length : Nat) : Int))) (((g30 ((rd49 x1 x0)))).bind fun r0 => (cond (!r0) (some false) (go (.j10 x0 0 x1 x2)))) none) none) (cond (decide ((0 : Int) < (((x1).length : Nat) : Int))) (cond ((((rd49 x1 0)).f0 : Int) != 2) (some false) (((g31 (⟨x1⟩ : S63))).bind fun r1 => (go (.j17 (r1).fst (r1).snd 0 x1 x2)))) none))
  | .j10 x0 x1 x2 x3 => (cond (decide ((0 : Int) ≤ x0)) (cond (decide ((x0 : Int) < (((x2).length : Nat) : Int))) (cond (decide ((x1 : Int) < (((((rd49 x2 x0)).f8).length : Nat) : Int))) (cond (decide ((0 : Int) ≤ x0)) (cond (decide ((x0 : Int) < (((x2).length : Nat) : Int))) (cond (decide ((0 : Int) ≤ x1)) (cond (decide ((x1 : Int) < (((((rd49 x2 x0)).f8).length : Nat) : Int))) (cond (decide ((0 : Int) ≤ x0)) (cond (decide ((x0 : Int) < (((x2).length : Nat) : Int))) (cond (decide ((0 : Int) ≤ x1)) (cond (decide ((x1 : Int) < (((((rd49 x2 x0)).f8).length : Nat) : Int))) (cond (decide ((0 : Int) ≤ ((rd67 ((rd49 x2 x0)).f8 x1)).f1)) (cond (decide ((((rd67 ((rd49 x2 x0)).f8 x1)).f1 : Int) < (((x3).length : Nat) : Int))) (cond (decide ((0 : Int) ≤ ((rd67 ((rd49 x2 x0)).f8 x1)).f1)) (cond (decide ((((rd67 ((rd49 x2 x0)).f8 x1)).f1 : Int) < (((x3).length : Nat) : Int))) (cond (decide ((0 : Int) ≤ ((rd67 ((rd49 x2 x0)).f8 x1)).f1)) (cond (decide ((((rd67 ((rd49 x2 x0)).f8 x1)).f1 : Int) < (((x3).length : Nat) : Int))) (cond (decide ((0 : Int) ≤ ((rd67 ((rd49 x2 x0)).f8 x1)).f1)) (cond (decide ((((rd67 ((rd49 x2 x0)).f8 x1)).f1 : Int) < (((x3).length : Nat) : Int))) (go (.j10 x0 (w64 (x1 + 1)) x2 (List.set x3 (((rd67 ((rd49 x2 x0)).f8 x1)).f1).toNat (w64 ((rd3 x3 ((rd67 ((rd49 x2 x0)).f8 x1)).f1) + 1))))) none) none) none) none) none) none) none) none) none) none) none) none) none) none) none) none) (go (.j5 (w64 (x0 + 1)) x2 x3))) none) none)
  | .j17 x0 x1 x2 x3 x4 => (cond (decide ((x2 : Int) < 10)) (cond x1 (go (.j19 x0 x1 x2 x3 x4)) (some x1)) (some x1))
  | .j19 x0 x1 x2 x3 x4 => (cond (decide ((0 : Int) ≤ x2)) (cond (decide ((x2 : Int) < (((x3).length : Nat) : Int))) (cond (decide ((0 : Int) ≤ x2)) (cond (decide ((x2 : Int) < (((x4).length : Nat) : Int))) (cond (decide ((0 : Int) ≤ x2)) (cond (decide ((x2 : Int) < (((x4).length : Nat) : Int))) (cond (decide (((rd3 x4 x2) : Int) > 0)) (cond ((((rd49 x3 x2)).f0 : Int) == 0) (some false) (cond ((((rd49 x3 x2)).f0 : Int) != 0) (cond (decide ((0 : Int) ≤ x2)) (cond (decide ((x2 : Int) < (((x4).length : Nat) : Int))) (cond (decide ((0 : Int) ≤ x2)) (cond (decide ((x2 : Int) < (((x4).length : Nat) : Int))) (cond ((((rd49 x3 x2)).f4 : Int) != (rd3 x4 x2)) (some false) (cond ((((rd49 x3 x2)).f0 : Int) == 2) (cond (decide ((0 : Int) ≤ x2)) (cond (decide ((x2 : Int) < (((x0).length : Nat) : Int))) (cond (!(rd4 x0 x2)) (some false) (cond ((((rd49 x3 x2)).f0 : Int) == 1) (cond ((((rd49 x3 x2)).f4 : Int) == 0) (cond ((((rd49 x3 x2)).f5 : Int) == 0) (some false) (go (.j18 x0 x1 x2 x3 x4))) (go (.j18 x0 x1 x2 x3 x4))) (go (.j18 x0 x1 x2 x3 x4)))) none) none) (cond ((((rd49 x3 x2)).f0 : Int) == 1) (cond ((((rd49 x3 x2)).f4 : Int) == 0) (cond ((((rd49 x3 x2)).f5 : Int) == 0) (some false) (go (.j18 x0 x1 x2 x3 x4))) (go (.j18 x0 x1 x2 x3 x4))) (go (.j18 x0 x1 x2 x3 x4))))) none) none) none) none) (cond ((((rd49 x3 x2)).f0 : Int) == 2) (cond (decide ((0 : Int) ≤ x2)) (cond (decide ((x2 : Int) < (((x0).length : Nat) : Int))) (cond (!(rd4 x0 x2)) (some false) (cond ((((rd49 x3 x2)).f0 : Int) == 1) (cond ((((rd49 x3 x2)).f4 : Int) == 0) (cond ((((rd49 x3 x2)).f5 : Int) == 0) (some false) (go (.j18 x0 x1 x2 x3 x4))) (go (.j18 x0 x1 x2 x3 x4))) (go (.j18 x0 x1 x2 x3 x4)))) none) none) (cond ((((rd49 x3 x2)).f0 : Int) == 1) (cond ((((rd49 x3 x2)).f4 : Int) == 0) (cond ((((rd49 x3 x2)).f5 : Int) == 0) (some false) (go (.j18 x0 x1 x2 x3 x4))) (go (.j18 x0 x1 x2 x3 x4))) (go (.j18 x0 x1 x2 x3 x4)))))) (cond ((((rd49 x3 x2)).f0 : Int) != 0) (cond (decide ((0 : Int) ≤ x2)) (cond (decide ((x2 : Int) < (((x4).length : Nat) : Int))) (cond (decide ((0 : Int) ≤ x2)) (cond (decide ((x2 : Int) < (((x4).length : Nat) : Int))) (cond ((((rd49 x3 x2)).f4 : Int) != (rd3 x4 x2)) (some false) (cond ((((rd49 x3 x2)).f0 : Int) == 2) (cond (decide ((0 : Int) ≤ x2)) (cond (decide ((x2 : Int) < (((x0).length : Nat) : Int))) (cond (!(rd4 x0 x2)) (some false) (cond ((((rd49 x3 x2)).f0 : Int) == 1) (cond ((((rd49 x3 x2)).f4 : Int) == 0) (cond ((((rd49 x3 x2)).f5 : Int) == 0) (some false) (go (.j18 x0 x1 x2 x3 x4))) (go (.j18 x0 x1 x2 x3 x4))) (go (.j18 x0 x1 x2 x3 x4)))) none) none) (cond ((((rd49 x3 x2)).f0 : Int) == 1) (cond ((((rd49 x3 x2)).f4 : Int) == 0) (cond ((((rd49 x3 x2)).f5 : Int) == 0) (some false) (go (.j18 x0 x1 x2 x3 x4))) (go (.j18 x0 x1 x2 x3 x4))) (go (.j18 x0 x1 x2 x3 x4))))) none) none) none) none) (cond ((((rd49 x3 x2)).f0 : Int) == 2) (cond (decide ((0 : Int) ≤ x2)) (cond (decide ((x2 : Int) < (((x0).length : Nat) : Int))) (cond (!(rd4 x0 x2)) (some false) (cond ((((rd49 x3 x2)).f0 : Int) == 1) (cond ((((rd49 x3 x2)).f4 : Int) == 0) (cond ((((rd49 x3 x2)).f5 : Int) == 0) (some false) (go (.j18 x0 x1 x2 x3 x4))) (go (.j18 x0 x1 x2 x3 x4))) (go (.j18 x0 x1 x2 x3 x4)))) none) none) (cond ((((rd49 x3 x2)).f0 : Int) == 1) (cond ((((rd49 x3 x2)).f4 : Int) == 0) (cond ((((rd49 x3 x2)).f5 : Int) == 0) (some false) (go (.j18 x0 x1 x2 x3 x4))) (go (.j18 x0 x1 x2 x3 x4))) (go (.j18 x0 x1 x2 x3 x4)))))) none) none) none) none) none) none)
  | .j18 x0 x1 x2 x3 x4 => (go (.j17 x0 x1 (w64 (x2 + 1)) x3 x4))
noncomputable def start14 (g30 : S86 → Option (Bool)) (g31 : S63 → Option ((List Bool) × Bool)) (go : J14 → Option (Bool)) : S63 → Option (Bool)
  | x0 => (cond ((((((x0).f0).length : Nat) : Int) : Int) != 10) (some false) (go (.j5 0 (x0).f0 (List.replicate 10 0))))
noncomputable def f14 (k : Nat) : S63 → Option (Bool) := start14 (f30 k) (f31 k) (run (step14 (f30 k) (f31 k)) k)
theorem st14 (g30 : S86 → Option (Bool)) (g31 : S63 → Option ((List Bool) × Bool)) (G : List Item → St TT → Option (Bool)) (p : J14) : evFrom (F14 g30 g31) G 3000 (td14 p) (em14 p) = step14 g30 g31 (fun q => G (td14 q) (em14 q)) p := by
  cases p <;> kernel_rfl
theorem en14 (g30 : S86 → Option (Bool)) (g31 : S63 → Option ((List Bool) × Bool)) (G : List Item → St TT → Option (Bool)) (a : S63) : ev (F14 g30 g31) G 3000 [.code (bodyOf Try.f14)] (st0 ((Dl.one (Dc.agg uu 44)).en a)) = start14 g30 g31 (fun q => G (td14 q) (em14 q)) a := by
  kernel_rfl
theorem snd14 (k : Nat) : Snd Try.prog UU 14 (W (Dl.one (Dc.agg uu 44)) (f14 k) (Dc.bool UU)) := by
  refine snd_fn (F := F14 (f30 k) (f31 k)) (fn := Try.f14) (body := bodyOf Try.f14) ⟨uu, tbl_ok ⟨snd30 k, snd31 k, trivial⟩, mixed⟩ (by kernel_rfl) (by kernel_rfl) (by kernel_rfl) rfl rfl rfl (fun a => Nat.le_of_ble_eq_true rfl) ?_
  intro a r h
  refine ⟨3000, k, ?_⟩
  rw [en14, show (fun q => evJ (F14 (f30 k) (f31 k)) 3000 k (td14 q) (em14 q)) = run (step14 (f30 k) (f31 k)) k from funext fun q => evJ_run _ _ _ (st14 (f30 k) (f31 k)) k q]
  exact h
noncomputable def F16 : Fn TT (Int) := ⟨Try.prog, UU, tbl [], Try.f16.ntmps, Try.f16.results.toList, [3], true, annOf [(3, [1, 3, 4])], finD (Dc.int UU .i64)⟩
inductive J16 where
  | j3 (x0 : Int) (x1 : Int) (x2 : (List S86))
noncomputable def td16 : J16 → List Item
  | .j3 _ _ _ => fnd 3 (bodyOf Try.f16) []
noncomputable def em16 : J16 → St TT
  | .j3 x0 x1 x2 => ⟨[(1, .ptr 0 0), (3, .v (.int .i64 x0)), (4, .v (.int .i64 x1))], [(0, .cells 44 [.row 49 x2])], 1⟩
noncomputable def step16 (go : J16 → Option (Int)) : J16 → Option (Int)
  | .j3 x0 x1 x2 => (cond (decide ((x1 : Int) < (((x2).length : Nat) : Int))) (cond (decide ((0 : Int) ≤ x1)) (cond (decide ((x1 : Int) < (((x2).length : Nat) : Int))) (go (.j3 (w64 (x0 + ((rd49 x2 x1)).f5)) (w64 (x1 + 1)) x2)) none) none) (some x0))
noncomputable def start16 (go : J16 → Option (Int)) : S63 → Option (Int)
  | x0 => (go (.j3 0 0 (x0).f0))
noncomputable def f16 (k : Nat) : S63 → Option (Int) := start16 (run (step16) k)
theorem st16 (G : List Item → St TT → Option (Int)) (p : J16) : evFrom (F16) G 3000 (td16 p) (em16 p) = step16 (fun q => G (td16 q) (em16 q)) p := by
  cases p <;> kernel_rfl
theorem en16 (G : List Item → St TT → Option (Int)) (a : S63) : ev (F16) G 3000 [.code (bodyOf Try.f16)] (st0 ((Dl.one (Dc.agg uu 44)).en a)) = start16 (fun q => G (td16 q) (em16 q)) a := by
  kernel_rfl
theorem snd16 (k : Nat) : Snd Try.prog UU 16 (W (Dl.one (Dc.agg uu 44)) (f16 k) (Dc.int UU .i64)) := by
  refine snd_fn (F := F16) (fn := Try.f16) (body := bodyOf Try.f16) ⟨uu, tbl_ok trivial, mixed⟩ (by kernel_rfl) (by kernel_rfl) (by kernel_rfl) rfl rfl rfl (fun a => Nat.le_of_ble_eq_true rfl) ?_
  intro a r h
  refine ⟨3000, k, ?_⟩
  rw [en16, show (fun q => evJ (F16) 3000 k (td16 q) (em16 q)) = run (step16) k from funext fun q => evJ_run _ _ _ (st16) k q]
  exact h
noncomputable def F6 (g14 : S63 → Option (Bool)) (g15 : Int × Int × Int → Option (Bool)) (g16 : S63 → Option (Int)) : Fn TT (Bool) := ⟨Try.prog, UU, tbl [(14, W (Dl.one (Dc.agg uu 44)) g14 (Dc.bool UU)), (15, W (Dl.cons (Dc.int UU .i64) (Dl.cons (Dc.int UU .i64) (Dl.one (Dc.int UU .i64)))) g15 (Dc.bool UU)), (16, W (Dl.one (Dc.agg uu 44)) g16 (Dc.int UU .i64))], Try.f6.ntmps, Try.f6.results.toList, [4], true, annOf [(3, [1])], finD (Dc.bool UU)⟩
inductive J6 where
  | j3 (x0 : (List S63)) (x1 : Int)
noncomputable def td6 : J6 → List Item
  | .j3 _ _ => fnd 3 (bodyOf Try.f6) []
noncomputable def em6 : J6 → St TT
  | .j3 x0 x1 => ⟨[(1, .ptr 0 0)], [(0, .cells 29 [.row 44 x0, .v (.int .i64 x1)])], 1⟩
noncomputable def step6 (g14 : S63 → Option (Bool)) (g15 : Int × Int × Int → Option (Bool)) (g16 : S63 → Option (Int)) (go : J6 → Option (Bool)) : J6 → Option (Bool)
  | .j3 x0 x1 => (cond (decide ((x1 : Int) < 0)) (cond (decide ((1 : Int) < (((x0).length : Nat) : Int))) (((g16 ((rd44 x0 1)))).bind fun r3 => (some ((r3 : Int) == 0))) none) (cond (decide ((0 : Int) < (((x0).length : Nat) : Int))) (cond (decide ((0 : Int) ≤ x1)) (cond (decide ((x1 : Int) < (((((rd44 x0 0)).f0).length : Nat) : Int))) (cond ((((rd49 ((rd44 x0 0)).f0 x1)).f0 : Int) == 2) (some (decide ((((rd49 ((rd44 x0 0)).f0 x1)).f5 : Int) > 0))) (some false)) none) none) none))
noncomputable def start6 (g14 : S63 → Option (Bool)) (g15 : Int × Int × Int → Option (Bool)) (g16 : S63 → Option (Int)) (go : J6 → Option (Bool)) : S24 → Option (Bool)
  | x0 => (cond ((((((x0).f0).length : Nat) : Int) : Int) != 2) (some false) (cond (decide ((0 : Int) < ((((x0).f0).length : Nat) : Int))) (((g14 ((rd44 (x0).f0 0)))).bind fun r0 => (cond (!r0) (some false) (cond (decide ((1 : Int) < ((((x0).f0).length : Nat) : Int))) (((g14 ((rd44 (x0).f0 1)))).bind fun r1 => (cond (!r1) (some false) (((g15 ((x0).f1, ((-1), 9)))).bind fun r2 => (cond (!r2) (some false) (cond (((x0).f1 : Int) == 0) (some false) (go (.j3 (x0).f0 (x0).f1))))))) none))) none))
noncomputable def f6 (k : Nat) : S24 → Option (Bool) := start6 (f14 k) (f15 k) (f16 k) (run (step6 (f14 k) (f15 k) (f16 k)) k)
theorem st6 (g14 : S63 → Option (Bool)) (g15 : Int × Int × Int → Option (Bool)) (g16 : S63 → Option (Int)) (G : List Item → St TT → Option (Bool)) (p : J6) : evFrom (F6 g14 g15 g16) G 3000 (td6 p) (em6 p) = step6 g14 g15 g16 (fun q => G (td6 q) (em6 q)) p := by
  cases p <;> kernel_rfl
theorem en6 (g14 : S63 → Option (Bool)) (g15 : Int × Int × Int → Option (Bool)) (g16 : S63 → Option (Int)) (G : List Item → St TT → Option (Bool)) (a : S24) : ev (F6 g14 g15 g16) G 3000 [.code (bodyOf Try.f6)] (st0 ((Dl.one (Dc.agg uu 29)).en a)) = start6 g14 g15 g16 (fun q => G (td6 q) (em6 q)) a := by
  kernel_rfl
theorem snd6 (k : Nat) : Snd Try.prog UU 6 (W (Dl.one (Dc.agg uu 29)) (f6 k) (Dc.bool UU)) := by
  refine snd_fn (F := F6 (f14 k) (f15 k) (f16 k)) (fn := Try.f6) (body := bodyOf Try.f6) ⟨uu, tbl_ok ⟨snd14 k, snd15 k, snd16 k, trivial⟩, mixed⟩ (by kernel_rfl) (by kernel_rfl) (by kernel_rfl) rfl rfl rfl (fun a => Nat.le_of_ble_eq_true rfl) ?_
  intro a r h
  refine ⟨3000, k, ?_⟩
  rw [en6, show (fun q => evJ (F6 (f14 k) (f15 k) (f16 k)) 3000 k (td6 q) (em6 q)) = run (step6 (f14 k) (f15 k) (f16 k)) k from funext fun q => evJ_run _ _ _ (st6 (f14 k) (f15 k) (f16 k)) k q]
  exact h
noncomputable def F38 (g15 : Int × Int × Int → Option (Bool)) : Fn TT (Bool) := ⟨Try.prog, UU, tbl [(15, W (Dl.cons (Dc.int UU .i64) (Dl.cons (Dc.int UU .i64) (Dl.one (Dc.int UU .i64)))) g15 (Dc.bool UU))], Try.f38.ntmps, Try.f38.results.toList, [4], true, annOf [], finD (Dc.bool UU)⟩
noncomputable def start38 (g15 : Int × Int × Int → Option (Bool)) : S63 × Int → Option (Bool)
  | (x0, x1) => (((g15 (x1, (0, (w64 (((((x0).f0).length : Nat) : Int) - 1)))))).bind fun r0 => (cond r0 (cond (decide ((0 : Int) ≤ x1)) (cond (decide ((x1 : Int) < ((((x0).f0).length : Nat) : Int))) (some ((((rd49 (x0).f0 x1)).f0 : Int) != 0)) none) none) (some false)))
noncomputable def f38 (k : Nat) : S63 × Int → Option (Bool) := start38 (f15 k)
theorem en38 (g15 : Int × Int × Int → Option (Bool)) (G : List Item → St TT → Option (Bool)) (a : S63 × Int) : ev (F38 g15) G 3000 [.code (bodyOf Try.f38)] (st0 ((Dl.cons (Dc.agg uu 44) (Dl.one (Dc.int UU .i64))).en a)) = start38 g15 a := by
  obtain ⟨x0, x1⟩ := a
  kernel_rfl
theorem snd38 (k : Nat) : Snd Try.prog UU 38 (W (Dl.cons (Dc.agg uu 44) (Dl.one (Dc.int UU .i64))) (f38 k) (Dc.bool UU)) := by
  refine snd_fn (F := F38 (f15 k)) (fn := Try.f38) (body := bodyOf Try.f38) ⟨uu, tbl_ok ⟨snd15 k, trivial⟩, mixed⟩ (by kernel_rfl) (by kernel_rfl) (by kernel_rfl) rfl rfl rfl (fun a => Nat.le_of_ble_eq_true rfl) ?_
  intro a r h
  refine ⟨3000, k, ?_⟩
  rw [en38]
  exact h
noncomputable def F22 (g15 : Int × Int × Int → Option (Bool)) (g38 : S63 × Int → Option (Bool)) : Fn TT (Bool) := ⟨Try.prog, UU, tbl [(15, W (Dl.cons (Dc.int UU .i64) (Dl.cons (Dc.int UU .i64) (Dl.one (Dc.int UU .i64)))) g15 (Dc.bool UU)), (38, W (Dl.cons (Dc.agg uu 44) (Dl.one (Dc.int UU .i64))) g38 (Dc.bool UU))], Try.f22.ntmps, Try.f22.results.toList, [4], true, annOf [], finD (Dc.bool UU)⟩
noncomputable def start22 (g15 : Int × Int × Int → Option (Bool)) (g38 : S63 × Int → Option (Bool)) : S24 × S34 → Option (Bool)
  | (x0, x1) => (((g15 ((x1).f0, (0, (w64 (((((x0).f0).length : Nat) : Int) - 1)))))).bind fun r0 => (cond r0 (cond (decide ((0 : Int) ≤ (x1).f0)) (cond (decide (((x1).f0 : Int) < ((((x0).f0).length : Nat) : Int))) (((g38 (((rd44 (x0).f0 (x1).f0)), (x1).f1))).bind fun r1 => (some r1)) none) none) (some false)))
noncomputable def f22 (k : Nat) : S24 × S34 → Option (Bool) := start22 (f15 k) (f38 k)
theorem en22 (g15 : Int × Int × Int → Option (Bool)) (g38 : S63 × Int → Option (Bool)) (G : List Item → St TT → Option (Bool)) (a : S24 × S34) : ev (F22 g15 g38) G 3000 [.code (bodyOf Try.f22)] (st0 ((Dl.cons (Dc.agg uu 29) (Dl.one (Dc.agg uu 37))).en a)) = start22 g15 g38 a := by
  obtain ⟨x0, x1⟩ := a
  kernel_rfl
theorem snd22 (k : Nat) : Snd Try.prog UU 22 (W (Dl.cons (Dc.agg uu 29) (Dl.one (Dc.agg uu 37))) (f22 k) (Dc.bool UU)) := by
  refine snd_fn (F := F22 (f15 k) (f38 k)) (fn := Try.f22) (body := bodyOf Try.f22) ⟨uu, tbl_ok ⟨snd15 k, snd38 k, trivial⟩, mixed⟩ (by kernel_rfl) (by kernel_rfl) (by kernel_rfl) rfl rfl rfl (fun a => Nat.le_of_ble_eq_true rfl) ?_
  intro a r h
  refine ⟨3000, k, ?_⟩
  rw [en22]
  exact h
noncomputable def F23 : Fn TT (S34) := ⟨Try.prog, UU, tbl [], Try.f23.ntmps, Try.f23.results.toList, [37], true, annOf [], finD (Dc.agg uu 37)⟩
noncomputable def start23 : S24 × S34 → Option (S34)
  | (x0, x1) => (cond (decide (((x0).f1 : Int) > 0)) (cond (((x1).f0 : Int) == 0) (cond (((x1).f1 : Int) == (x0).f1) (some (⟨1, 0⟩ : S34)) (some (x1))) (some (x1))) (some (x1)))
noncomputable def f23 (k : Nat) : S24 × S34 → Option (S34) := start23
theorem en23 (G : List Item → St TT → Option (S34)) (a : S24 × S34) : ev (F23) G 3000 [.code (bodyOf Try.f23)] (st0 ((Dl.cons (Dc.agg uu 29) (Dl.one (Dc.agg uu 37))).en a)) = start23 a := by
  obtain ⟨x0, x1⟩ := a
  kernel_rfl
theorem snd23 (k : Nat) : Snd Try.prog UU 23 (W (Dl.cons (Dc.agg uu 29) (Dl.one (Dc.agg uu 37))) (f23 k) (Dc.agg uu 37)) := by
  refine snd_fn (F := F23) (fn := Try.f23) (body := bodyOf Try.f23) ⟨uu, tbl_ok trivial, mixed⟩ (by kernel_rfl) (by kernel_rfl) (by kernel_rfl) rfl rfl rfl (fun a => Nat.le_of_ble_eq_true rfl) ?_
  intro a r h
  refine ⟨3000, k, ?_⟩
  rw [en23]
  exact h
noncomputable def F24 : Fn TT (S34) := ⟨Try.prog, UU, tbl [], Try.f24.ntmps, Try.f24.results.toList, [37], true, annOf [(4, [2, 3, 4]), (5, [2, 3, 4]), (7, [3, 4, 5, 6]), (10, [3, 4, 5, 6, 7])], finD (Dc.agg uu 37)⟩
inductive J24 where
  | j4 (x0 : (List S63)) (x1 : Int) (x2 : Int) (x3 : Int) (x4 : Int) (x5 : Int)
  | j5 (x0 : (List S63)) (x1 : Int) (x2 : Int) (x3 : Int) (x4 : Int) (x5 : Int)
  | j7 (x0 : Int) (x1 : Int) (x2 : Int) (x3 : Int) (x4 : Int) (x5 : (List S86))
  | j10 (x0 : Int) (x1 : Int) (x2 : Int) (x3 : Int) (x4 : Int) (x5 : Int) (x6 : (List S86))
noncomputable def td24 : J24 → List Item
  | .j4 _ _ _ _ _ _ => fnd 4 (bodyOf Try.f24) []
  | .j5 _ _ _ _ _ _ => fnd 5 (bodyOf Try.f24) []
  | .j7 _ _ _ _ _ _ => fnd 7 (bodyOf Try.f24) []
  | .j10 _ _ _ _ _ _ _ => fnd 10 (bodyOf Try.f24) []
noncomputable def em24 : J24 → St TT
  | .j4 x0 x1 x2 x3 x4 x5 => ⟨[(2, .ptr 0 0), (3, .ptr 1 0), (4, .ptr 2 0)], [(0, .cells 29 [.row 44 x0, .v (.int .i64 x1)]), (1, .cells 37 [.v (.int .i64 x2), .v (.int .i64 x3)]), (2, .cells 37 [.v (.int .i64 x4), .v (.int .i64 x5)])], 3⟩
  | .j5 x0 x1 x2 x3 x4 x5 => ⟨[(2, .ptr 0 0), (3, .ptr 1 0), (4, .ptr 2 0)], [(0, .cells 29 [.row 44 x0, .v (.int .i64 x1)]), (1, .cells 37 [.v (.int .i64 x2), .v (.int .i64 x3)]), (2, .cells 37 [.v (.int .i64 x4), .v (.int .i64 x5)])], 3⟩
  | .j7 x0 x1 x2 x3 x4 x5 => ⟨[(3, .ptr 0 0), (4, .ptr 1 0), (5, .ptr 2 0), (6, .v (.int .i64 x0))], [(0, .cells 37 [.v (.int .i64 x1), .v (.int .i64 x2)]), (1, .cells 37 [.v (.int .i64 x3), .v (.int .i64 x4)]), (2, .cells 44 [.row 49 x5])], 3⟩
  | .j10 x0 x1 x2 x3 x4 x5 x6 => ⟨[(3, .ptr 0 0), (4, .ptr 1 0), (5, .ptr 2 0), (6, .v (.int .i64 x0)), (7, .v (.int .i64 x1))], [(0, .cells 37 [.v (.int .i64 x2), .v (.int .i64 x3)]), (1, .cells 37 [.v (.int .i64 x4), .v (.int .i64 x5)]), (2, .cells 44 [.row 49 x6])], 3⟩
noncomputable def step24 (go : J24 → Option (S34)) : J24 → Option (S34)
  | .j4 x0 x1 x2 x3 x4 x5 => (go (.j5 x0 x1 0 x1 x4 x5))
  | .j5 x0 x1 x2 x3 x4 x5 => (cond (decide ((0 : Int) ≤ x2)) (cond (decide ((x2 : Int) < (((x0).length : Nat) : Int))) (go (.j7 0 x2 x3 x4 x5 ((rd44 x0 x2)).f0)) none) none)
  | .j7 x0 x1 x2 x3 x4 x5 => (cond (decide ((x0 : Int) < (((x5).length : Nat) : Int))) (go (.j10 x0 0 x1 x2 x3 x4 x5)) (some (⟨x1, x2⟩ : S34)))
  | .j10 x0 x1 x2 x3 x4 x5 x6 => (cond (decide ((0 : Int) ≤ x0)) (cond (decide ((x0 : Int) < (((x6).length : Nat) : Int))) (cond (decide ((x1 : Int) < (((((rd49 x6 x0)).f8).length : Nat) : Int))) (cond (decide ((0 : Int) ≤ x0)) (cond (decide ((x0 : Int) < (((x6).length : Nat) : Int))) (cond (decide ((0 : Int) ≤ x1)) (cond (decide ((x1 : Int) < (((((rd49 x6 x0)).f8).length : Nat) : Int))) (cond ((((rd67 ((rd49 x6 x0)).f8 x1)).f1 : Int) == x3) (some (⟨x2, x0⟩ : S34)) (go (.j10 x0 (w64 (x1 + 1)) x2 x3 x4 x5 x6))) none) none) none) none) (go (.j7 (w64 (x0 + 1)) x2 x3 x4 x5 x6))) none) none)
noncomputable def start24 (go : J24 → Option (S34)) : S24 × S34 → Option (S34)
  | (x0, x1) => (cond (((x1).f1 : Int) == 0) (cond (((x1).f0 : Int) == 0) (some (x1)) (cond (decide (((x0).f1 : Int) < 0)) (some (x1)) (go (.j4 (x0).f0 (x0).f1 (x1).f0 (x1).f1 0 0)))) (go (.j5 (x0).f0 (x0).f1 (x1).f0 (x1).f1 0 0)))
noncomputable def f24 (k : Nat) : S24 × S34 → Option (S34) := start24 (run (step24) k)
theorem st24 (G : List Item → St TT → Option (S34)) (p : J24) : evFrom (F24) G 3000 (td24 p) (em24 p) = step24 (fun q => G (td24 q) (em24 q)) p := by
  cases p <;> kernel_rfl
theorem en24 (G : List Item → St TT → Option (S34)) (a : S24 × S34) : ev (F24) G 3000 [.code (bodyOf Try.f24)] (st0 ((Dl.cons (Dc.agg uu 29) (Dl.one (Dc.agg uu 37))).en a)) = start24 (fun q => G (td24 q) (em24 q)) a := by
  obtain ⟨x0, x1⟩ := a
  kernel_rfl
theorem snd24 (k : Nat) : Snd Try.prog UU 24 (W (Dl.cons (Dc.agg uu 29) (Dl.one (Dc.agg uu 37))) (f24 k) (Dc.agg uu 37)) := by
  refine snd_fn (F := F24) (fn := Try.f24) (body := bodyOf Try.f24) ⟨uu, tbl_ok trivial, mixed⟩ (by kernel_rfl) (by kernel_rfl) (by kernel_rfl) rfl rfl rfl (fun a => Nat.le_of_ble_eq_true rfl) ?_
  intro a r h
  refine ⟨3000, k, ?_⟩
  rw [en24, show (fun q => evJ (F24) 3000 k (td24 q) (em24 q)) = run (step24) k from funext fun q => evJ_run _ _ _ (st24) k q]
  exact h
noncomputable def F25 : Fn TT (ByteArray) := ⟨Try.prog, UU, tbl [], Try.f25.ntmps, Try.f25.results.toList, [9], true, annOf [(2, [1, 2, 3, 7])], finD (Dc.str UU)⟩
inductive J25 where
  | j2 (x0 : Int) (x1 : Int) (x2 : Int) (x3 : (List S86))
noncomputable def td25 : J25 → List Item
  | .j2 _ _ _ _ => fnd 2 (bodyOf Try.f25) []
noncomputable def em25 : J25 → St TT
  | .j2 x0 x1 x2 x3 => ⟨[(1, .v (.int .i64 x0)), (2, .v (.int .i64 x1)), (3, .ptr 0 0), (7, .v (.int .i64 x2))], [(0, .cells 44 [.row 49 x3])], 1⟩
noncomputable def step25 (go : J25 → Option (ByteArray)) : J25 → Option (ByteArray)
  | .j2 x0 x1 x2 x3 => (cond (decide ((0 : Int) ≤ x0)) (cond (decide ((x0 : Int) < (((x3).length : Nat) : Int))) (cond (decide ((x2 : Int) < (((((rd49 x3 x0)).f8).length : Nat) : Int))) (cond (decide ((0 : Int) ≤ x0)) (cond (decide ((x0 : Int) < (((x3).length : Nat) : Int))) (cond (decide ((0 : Int) ≤ x2)) (cond (decide ((x2 : Int) < (((((rd49 x3 x0)).f8).length : Nat) : Int))) (cond ((((rd67 ((rd49 x3 x0)).f8 x2)).f1 : Int) == x1) (cond (decide ((0 : Int) ≤ x0)) (cond (decide ((x0 : Int) < (((x3).length : Nat) : Int))) (cond (decide ((0 : Int) ≤ x2)) (cond (decide ((x2 : Int) < (((((rd49 x3 x0)).f8).length : Nat) : Int))) (some ((rd67 ((rd49 x3 x0)).f8 x2)).f0) none) none) none) none) (go (.j2 x0 x1 (w64 (x2 + 1)) x3))) none) none) none) none) (some (⟨#[]⟩ : ByteArray))) none) none)
noncomputable def start25 (go : J25 → Option (ByteArray)) : S63 × Int × Int → Option (ByteArray)
  | (x0, x1, x2) => (go (.j2 x1 x2 0 (x0).f0))
noncomputable def f25 (k : Nat) : S63 × Int × Int → Option (ByteArray) := start25 (run (step25) k)
theorem st25 (G : List Item → St TT → Option (ByteArray)) (p : J25) : evFrom (F25) G 3000 (td25 p) (em25 p) = step25 (fun q => G (td25 q) (em25 q)) p := by
  cases p <;> kernel_rfl
theorem en25 (G : List Item → St TT → Option (ByteArray)) (a : S63 × Int × Int) : ev (F25) G 3000 [.code (bodyOf Try.f25)] (st0 ((Dl.cons (Dc.agg uu 44) (Dl.cons (Dc.int UU .i64) (Dl.one (Dc.int UU .i64)))).en a)) = start25 (fun q => G (td25 q) (em25 q)) a := by
  obtain ⟨x0, x1, x2⟩ := a
  kernel_rfl
theorem snd25 (k : Nat) : Snd Try.prog UU 25 (W (Dl.cons (Dc.agg uu 44) (Dl.cons (Dc.int UU .i64) (Dl.one (Dc.int UU .i64)))) (f25 k) (Dc.str UU)) := by
  refine snd_fn (F := F25) (fn := Try.f25) (body := bodyOf Try.f25) ⟨uu, tbl_ok trivial, mixed⟩ (by kernel_rfl) (by kernel_rfl) (by kernel_rfl) rfl rfl rfl (fun a => Nat.le_of_ble_eq_true rfl) ?_
  intro a r h
  refine ⟨3000, k, ?_⟩
  rw [en25, show (fun q => evJ (F25) 3000 k (td25 q) (em25 q)) = run (step25) k from funext fun q => evJ_run _ _ _ (st25) k q]
  exact h
noncomputable def F10 (g6 : S24 → Option (Bool)) (g22 : S24 × S34 → Option (Bool)) (g23 : S24 × S34 → Option (S34)) (g24 : S24 × S34 → Option (S34)) (g25 : S63 × Int × Int → Option (ByteArray)) : Fn TT (ByteArray × Bool) := ⟨Try.prog, UU, tbl [(6, W (Dl.one (Dc.agg uu 29)) g6 (Dc.bool UU)), (22, W (Dl.cons (Dc.agg uu 29) (Dl.one (Dc.agg uu 37))) g22 (Dc.bool UU)), (23, W (Dl.cons (Dc.agg uu 29) (Dl.one (Dc.agg uu 37))) g23 (Dc.agg uu 37)), (24, W (Dl.cons (Dc.agg uu 29) (Dl.one (Dc.agg uu 37))) g24 (Dc.agg uu 37)), (25, W (Dl.cons (Dc.agg uu 44) (Dl.cons (Dc.int UU .i64) (Dl.one (Dc.int UU .i64)))) g25 (Dc.str UU))], Try.f10.ntmps, Try.f10.results.toList, [9, 4], true, annOf [(3, [2, 3]), (5, [2, 3, 6]), (11, [2, 3, 6, 7]), (12, [2, 3, 6, 7, 8])], finD (Dc.tup (Dl.cons (Dc.str UU) (Dl.one (Dc.bool UU))))⟩
inductive J10 where
  | j3 (x0 : (List S63)) (x1 : Int) (x2 : Int) (x3 : Int)
  | j5 (x0 : ByteArray) (x1 : (List S63)) (x2 : Int) (x3 : Int) (x4 : Int)
  | j11 (x0 : ByteArray) (x1 : (List S63)) (x2 : Int) (x3 : Int) (x4 : Int) (x5 : Int) (x6 : Int)
  | j12 (x0 : ByteArray) (x1 : Int) (x2 : (List S63)) (x3 : Int) (x4 : Int) (x5 : Int) (x6 : Int) (x7 : Int)
noncomputable def td10 : J10 → List Item
  | .j3 _ _ _ _ => fnd 3 (bodyOf Try.f10) []
  | .j5 _ _ _ _ _ => fnd 5 (bodyOf Try.f10) []
  | .j11 _ _ _ _ _ _ _ => fnd 11 (bodyOf Try.f10) []
  | .j12 _ _ _ _ _ _ _ _ => fnd 12 (bodyOf Try.f10) []
noncomputable def em10 : J10 → St TT
  | .j3 x0 x1 x2 x3 => ⟨[(2, .ptr 0 0), (3, .ptr 1 0)], [(0, .cells 29 [.row 44 x0, .v (.int .i64 x1)]), (1, .cells 37 [.v (.int .i64 x2), .v (.int .i64 x3)])], 2⟩
  | .j5 x0 x1 x2 x3 x4 => ⟨[(2, .ptr 0 0), (3, .ptr 1 0), (6, .v (.string x0))], [(0, .cells 29 [.row 44 x1, .v (.int .i64 x2)]), (1, .cells 37 [.v (.int .i64 x3), .v (.int .i64 x4)])], 2⟩
  | .j11 x0 x1 x2 x3 x4 x5 x6 => ⟨[(2, .ptr 0 0), (3, .ptr 1 0), (6, .v (.string x0)), (7, .ptr 2 0)], [(0, .cells 29 [.row 44 x1, .v (.int .i64 x2)]), (1, .cells 37 [.v (.int .i64 x3), .v (.int .i64 x4)]), (2, .cells 37 [.v (.int .i64 x5), .v (.int .i64 x6)])], 3⟩
  | .j12 x0 x1 x2 x3 x4 x5 x6 x7 => ⟨[(2, .ptr 0 0), (3, .ptr 1 0), (6, .v (.string x0)), (7, .ptr 2 0), (8, .v (.int .i64 x1))], [(0, .cells 29 [.row 44 x2, .v (.int .i64 x3)]), (1, .cells 37 [.v (.int .i64 x4), .v (.int .i64 x5)]), (2, .cells 37 [.v (.int .i64 x6), .v (.int .i64 x7)])], 3⟩
noncomputable def step10 (g6 : S24 → Option (Bool)) (g22 : S24 × S34 → Option (Bool)) (g23 : S24 × S34 → Option (S34)) (g24 : S24 × S34 → Option (S34)) (g25 : S63 × Int × Int → Option (ByteArray)) (go : J10 → Option (ByteArray × Bool)) : J10 → Option (ByteArray × Bool)
  | .j3 x0 x1 x2 x3 => (((g23 ((⟨x0, x1⟩ : S24), (⟨x2, x3⟩ : S34)))).bind fun r2 => (go (.j5 (⟨#[]⟩ : ByteArray) x0 x1 (r2).f0 (r2).f1)))
  | .j5 x0 x1 x2 x3 x4 => (cond (!(((x3 : Int) == 0) && (((x4 : Int) == 0) && true))) (((g24 ((⟨x1, x2⟩ : S24), (⟨x3, x4⟩ : S34)))).bind fun r3 => (((g23 ((⟨x1, x2⟩ : S24), (r3)))).bind fun r4 => (cond (!((((r4).f0 : Int) == (r3).f0) && ((((r4).f1 : Int) == (r3).f1) && true))) (some ((⟨#[]⟩ : ByteArray), false)) (cond ((x3 : Int) == 1) (cond ((x4 : Int) == 0) (go (.j11 x0 x1 x2 x3 x4 (r3).f0 (r3).f1)) (go (.j12 x0 x4 x1 x2 x3 x4 (r3).f0 (r3).f1))) (go (.j12 x0 x4 x1 x2 x3 x4 (r3).f0 (r3).f1)))))) (cond ((x0).toList == ((⟨#[]⟩ : ByteArray)).toList) (some ((⟨#[47]⟩ : ByteArray), true)) (some (x0, true))))
  | .j11 x0 x1 x2 x3 x4 x5 x6 => (go (.j12 x0 x2 x1 x2 x3 x4 x5 x6))
  | .j12 x0 x1 x2 x3 x4 x5 x6 x7 => (cond (decide ((0 : Int) ≤ x6)) (cond (decide ((x6 : Int) < (((x2).length : Nat) : Int))) (((g25 (((rd44 x2 x6)), (x7, x1)))).bind fun r5 => (cond (decide (((((((⟨#[47]⟩ : ByteArray)).size + (r5).size) : Nat) : Int) : Int) ≤ 9223372036854775807)) (cond (decide ((((((((⟨#[47]⟩ : ByteArray) ++ r5)).size + (x0).size) : Nat) : Int) : Int) ≤ 9223372036854775807)) (go (.j5 (((⟨#[47]⟩ : ByteArray) ++ r5) ++ x0) x2 x3 x6 x7)) none) none)) none) none)
noncomputable def start10 (g6 : S24 → Option (Bool)) (g22 : S24 × S34 → Option (Bool)) (g23 : S24 × S34 → Option (S34)) (g24 : S24 × S34 → Option (S34)) (g25 : S63 × Int × Int → Option (ByteArray)) (go : J10 → Option (ByteArray × Bool)) : S24 × S34 → Option (ByteArray × Bool)
  | (x0, x1) => (((g6 (x0))).bind fun r0 => (cond (!r0) (some ((⟨#[]⟩ : ByteArray), false)) (((g22 ((x0), (x1)))).bind fun r1 => (cond (!r1) (some ((⟨#[]⟩ : ByteArray), false)) (cond (decide ((0 : Int) ≤ (x1).f0)) (cond (decide (((x1).f0 : Int) < ((((x0).f0).length : Nat) : Int))) (cond (decide ((0 : Int) ≤ (x1).f1)) (cond (decide (((x1).f1 : Int) < (((((rd44 (x0).f0 (x1).f0)).f0).length : Nat) : Int))) (cond ((((rd49 ((rd44 (x0).f0 (x1).f0)).f0 (x1).f1)).f0 : Int) != 2) (some ((⟨#[]⟩ : ByteArray), false)) (cond (((x1).f0 : Int) == 1) (cond (decide (((x0).f1 : Int) < 0)) (some ((⟨#[]⟩ : ByteArray), false)) (go (.j3 (x0).f0 (x0).f1 (x1).f0 (x1).f1))) (go (.j3 (x0).f0 (x0).f1 (x1).f0 (x1).f1)))) none) none) none) none)))))
noncomputable def f10 (k : Nat) : S24 × S34 → Option (ByteArray × Bool) := start10 (f6 k) (f22 k) (f23 k) (f24 k) (f25 k) (run (step10 (f6 k) (f22 k) (f23 k) (f24 k) (f25 k)) k)
theorem st10 (g6 : S24 → Option (Bool)) (g22 : S24 × S34 → Option (Bool)) (g23 : S24 × S34 → Option (S34)) (g24 : S24 × S34 → Option (S34)) (g25 : S63 × Int × Int → Option (ByteArray)) (G : List Item → St TT → Option (ByteArray × Bool)) (p : J10) : evFrom (F10 g6 g22 g23 g24 g25) G 3000 (td10 p) (em10 p) = step10 g6 g22 g23 g24 g25 (fun q => G (td10 q) (em10 q)) p := by
  cases p <;> kernel_rfl
theorem en10 (g6 : S24 → Option (Bool)) (g22 : S24 × S34 → Option (Bool)) (g23 : S24 × S34 → Option (S34)) (g24 : S24 × S34 → Option (S34)) (g25 : S63 × Int × Int → Option (ByteArray)) (G : List Item → St TT → Option (ByteArray × Bool)) (a : S24 × S34) : ev (F10 g6 g22 g23 g24 g25) G 3000 [.code (bodyOf Try.f10)] (st0 ((Dl.cons (Dc.agg uu 29) (Dl.one (Dc.agg uu 37))).en a)) = start10 g6 g22 g23 g24 g25 (fun q => G (td10 q) (em10 q)) a := by
  obtain ⟨x0, x1⟩ := a
  kernel_rfl
theorem snd10 (k : Nat) : Snd Try.prog UU 10 (W (Dl.cons (Dc.agg uu 29) (Dl.one (Dc.agg uu 37))) (f10 k) (Dc.tup (Dl.cons (Dc.str UU) (Dl.one (Dc.bool UU))))) := by
  refine snd_fn (F := F10 (f6 k) (f22 k) (f23 k) (f24 k) (f25 k)) (fn := Try.f10) (body := bodyOf Try.f10) ⟨uu, tbl_ok ⟨snd6 k, snd22 k, snd23 k, snd24 k, snd25 k, trivial⟩, mixed⟩ (by kernel_rfl) (by kernel_rfl) (by kernel_rfl) rfl rfl rfl (fun a => Nat.le_of_ble_eq_true rfl) ?_
  intro a r h
  refine ⟨3000, k, ?_⟩
  rw [en10, show (fun q => evJ (F10 (f6 k) (f22 k) (f23 k) (f24 k) (f25 k)) 3000 k (td10 q) (em10 q)) = run (step10 (f6 k) (f22 k) (f23 k) (f24 k) (f25 k)) k from funext fun q => evJ_run _ _ _ (st10 (f6 k) (f22 k) (f23 k) (f24 k) (f25 k)) k q]
  exact h
noncomputable def F11 : Fn TT (S34) := ⟨Try.prog, UU, tbl [], Try.f11.ntmps, Try.f11.results.toList, [37], true, annOf [], finD (Dc.agg uu 37)⟩
noncomputable def start11 : S34 → Option (S34)
  | x0 => (some (x0))
noncomputable def f11 (k : Nat) : S34 → Option (S34) := start11
theorem en11 (G : List Item → St TT → Option (S34)) (a : S34) : ev (F11) G 3000 [.code (bodyOf Try.f11)] (st0 ((Dl.one (Dc.agg uu 34)).en a)) = start11 a := by
  kernel_rfl
theorem snd11 (k : Nat) : Snd Try.prog UU 11 (W (Dl.one (Dc.agg uu 34)) (f11 k) (Dc.agg uu 37)) := by
  refine snd_fn (F := F11) (fn := Try.f11) (body := bodyOf Try.f11) ⟨uu, tbl_ok trivial, mixed⟩ (by kernel_rfl) (by kernel_rfl) (by kernel_rfl) rfl rfl rfl (fun a => Nat.le_of_ble_eq_true rfl) ?_
  intro a r h
  refine ⟨3000, k, ?_⟩
  rw [en11]
  exact h
noncomputable def F20 : Fn TT (Bool) := ⟨Try.prog, UU, tbl [], Try.f20.ntmps, Try.f20.results.toList, [4], true, annOf [], finD (Dc.bool UU)⟩
noncomputable def start20 : Int × Int × Int → Option (Bool)
  | (x0, x1, x2) => (cond (decide ((x0 : Int) ≥ x1)) (some (decide ((x0 : Int) ≤ x2))) (some false))
noncomputable def f20 (k : Nat) : Int × Int × Int → Option (Bool) := start20
theorem en20 (G : List Item → St TT → Option (Bool)) (a : Int × Int × Int) : ev (F20) G 3000 [.code (bodyOf Try.f20)] (st0 ((Dl.cons (Dc.int UU .i64) (Dl.cons (Dc.int UU .i64) (Dl.one (Dc.int UU .i64)))).en a)) = start20 a := by
  obtain ⟨x0, x1, x2⟩ := a
  kernel_rfl
theorem snd20 (k : Nat) : Snd Try.prog UU 20 (W (Dl.cons (Dc.int UU .i64) (Dl.cons (Dc.int UU .i64) (Dl.one (Dc.int UU .i64)))) (f20 k) (Dc.bool UU)) := by
  refine snd_fn (F := F20) (fn := Try.f20) (body := bodyOf Try.f20) ⟨uu, tbl_ok trivial, mixed⟩ (by kernel_rfl) (by kernel_rfl) (by kernel_rfl) rfl rfl rfl (fun a => Nat.le_of_ble_eq_true rfl) ?_
  intro a r h
  refine ⟨3000, k, ?_⟩
  rw [en20]
  exact h
noncomputable def F33 : Fn TT (Bool) := ⟨Try.prog, UU, tbl [], Try.f33.ntmps, Try.f33.results.toList, [4], true, annOf [], finD (Dc.bool UU)⟩
noncomputable def start33 : S86 → Option (Bool)
  | x0 => (cond (((x0).f0 : Int) == 0) (cond (((x0).f1 : Int) == 0) (cond (((x0).f2 : Int) == 0) (cond (((x0).f3 : Int) == 0) (cond (((x0).f4 : Int) == 0) (cond (((x0).f5 : Int) == 0) (cond (!(x0).f6) (cond (((x0).f7).toList == ((⟨#[]⟩ : ByteArray)).toList) (some ((((((x0).f8).length : Nat) : Int) : Int) == 0)) (some false)) (some false)) (some false)) (some false)) (some false)) (some false)) (some false)) (some false))
noncomputable def f33 (k : Nat) : S86 → Option (Bool) := start33
theorem en33 (G : List Item → St TT → Option (Bool)) (a : S86) : ev (F33) G 3000 [.code (bodyOf Try.f33)] (st0 ((Dl.one (Dc.agg uu 49)).en a)) = start33 a := by
  kernel_rfl
theorem snd33 (k : Nat) : Snd Try.prog UU 33 (W (Dl.one (Dc.agg uu 49)) (f33 k) (Dc.bool UU)) := by
  refine snd_fn (F := F33) (fn := Try.f33) (body := bodyOf Try.f33) ⟨uu, tbl_ok trivial, mixed⟩ (by kernel_rfl) (by kernel_rfl) (by kernel_rfl) rfl rfl rfl (fun a => Nat.le_of_ble_eq_true rfl) ?_
  intro a r h
  refine ⟨3000, k, ?_⟩
  rw [en33]
  exact h
noncomputable def F18 (g20 : Int × Int × Int → Option (Bool)) (g33 : S86 → Option (Bool)) (g34 : ByteArray → Option (Bool)) : Fn TT (Bool) := ⟨Try.prog, UU, tbl [(20, W (Dl.cons (Dc.int UU .i64) (Dl.cons (Dc.int UU .i64) (Dl.one (Dc.int UU .i64)))) g20 (Dc.bool UU)), (33, W (Dl.one (Dc.agg uu 49)) g33 (Dc.bool UU)), (34, W (Dl.one (Dc.str UU)) g34 (Dc.bool UU))], Try.f18.ntmps, Try.f18.results.toList, [4], true, annOf [(3, [1]), (6, [1, 3, 4, 28, 29, 30]), (13, [1, 3, 4, 5, 6, 28, 29, 30]), (15, [1, 3, 4, 5, 6, 28, 29, 30]), (16, [1, 3, 4, 5, 6, 28, 29, 30, 105, 106, 107]), (20, [1, 3, 4, 5, 6, 8, 28, 29, 30, 105, 106, 107]), (23, [1, 3, 4, 28, 29, 30]), (25, [3, 4, 163, 164, 165]), (30, [3, 4, 9, 10, 163, 164, 165]), (31, [3, 4, 9, 10, 163, 164, 165]), (33, [3, 4, 9, 10, 163, 164, 165]), (36, [3, 4, 11, 12, 163, 164, 165]), (41, [3, 4, 163, 164, 165])], finD (Dc.bool UU)⟩
inductive J18 where
  | j3 (x0 : (List S86))
  | j6 (x0 : (List S86)) (x1 : Int) (x2 : Int) (x3 : (List S86)) (x4 : (List Int)) (x5 : (List Int))
  | j23 (x0 : (List S86)) (x1 : Int) (x2 : Int) (x3 : (List S86)) (x4 : (List Int)) (x5 : (List Int))
  | j13 (x0 : Int) (x1 : (List S86)) (x2 : Int) (x3 : Int) (x4 : (List S86)) (x5 : (List Int)) (x6 : (List Int)) (x7 : Int) (x8 : Int) (x9 : Int) (x10 : Int) (x11 : Int) (x12 : Int) (x13 : Bool) (x14 : ByteArray) (x15 : (List S94))
  | j25 (x0 : (List S86)) (x1 : Int) (x2 : Int) (x3 : (List Int)) (x4 : (List Int))
  | j15 (x0 : Int) (x1 : (List S86)) (x2 : Int) (x3 : Int) (x4 : (List S86)) (x5 : (List Int)) (x6 : (List Int)) (x7 : Int) (x8 : Int) (x9 : Int) (x10 : Int) (x11 : Int) (x12 : Int) (x13 : Bool) (x14 : ByteArray) (x15 : (List S94))
  | j41 (x0 : (List S86)) (x1 : Int) (x2 : Int) (x3 : (List Int)) (x4 : (List Int))
  | j33 (x0 : Int) (x1 : (List S86)) (x2 : Int) (x3 : Int) (x4 : (List Int)) (x5 : (List Int)) (x6 : Int) (x7 : Int) (x8 : Int) (x9 : Int) (x10 : Int) (x11 : Int) (x12 : Bool) (x13 : ByteArray) (x14 : (List S94))
  | j30 (x0 : Int) (x1 : (List S86)) (x2 : Int) (x3 : Int) (x4 : (List Int)) (x5 : (List Int)) (x6 : Int) (x7 : Int) (x8 : Int) (x9 : Int) (x10 : Int) (x11 : Int) (x12 : Bool) (x13 : ByteArray) (x14 : (List S94))
  | j16 (x0 : Int) (x1 : (List S86)) (x2 : Int) (x3 : Int) (x4 : (List S94)) (x5 : Int) (x6 : Int) (x7 : (List S86)) (x8 : (List Int)) (x9 : (List Int)) (x10 : Int) (x11 : Int) (x12 : Int) (x13 : Int) (x14 : Int) (x15 : Int) (x16 : Bool) (x17 : ByteArray) (x18 : (List S94))
  | j36 (x0 : Int) (x1 : Int) (x2 : (List S86)) (x3 : Int) (x4 : Int) (x5 : (List Int)) (x6 : (List Int))
  | j31 (x0 : Int) (x1 : (List S86)) (x2 : Int) (x3 : Int) (x4 : (List Int)) (x5 : (List Int)) (x6 : Int) (x7 : Int) (x8 : Int) (x9 : Int) (x10 : Int) (x11 : Int) (x12 : Bool) (x13 : ByteArray) (x14 : (List S94))
  | j20 (x0 : Int) (x1 : (List S86)) (x2 : Int) (x3 : Int) (x4 : (List S94)) (x5 : Int) (x6 : Int) (x7 : (List S86)) (x8 : (List Int)) (x9 : (List Int)) (x10 : Int) (x11 : Int) (x12 : Int) (x13 : Int) (x14 : Int) (x15 : Int) (x16 : Bool) (x17 : ByteArray) (x18 : (List S94)) (x19 : ByteArray) (x20 : Int)
noncomputable def td18 : J18 → List Item
  | .j3 _ => fnd 3 (bodyOf Try.f18) []
  | .j6 _ _ _ _ _ _ => fnd 6 (bodyOf Try.f18) []
  | .j23 _ _ _ _ _ _ => fnd 23 (bodyOf Try.f18) []
  | .j13 _ _ _ _ _ _ _ _ _ _ _ _ _ _ _ _ => fnd 13 (bodyOf Try.f18) []
  | .j25 _ _ _ _ _ => fnd 25 (bodyOf Try.f18) []
  | .j15 _ _ _ _ _ _ _ _ _ _ _ _ _ _ _ _ => fnd 15 (bodyOf Try.f18) []
  | .j41 _ _ _ _ _ => fnd 41 (bodyOf Try.f18) []
  | .j33 _ _ _ _ _ _ _ _ _ _ _ _ _ _ _ => fnd 33 (bodyOf Try.f18) []
  | .j30 _ _ _ _ _ _ _ _ _ _ _ _ _ _ _ => fnd 30 (bodyOf Try.f18) []
  | .j16 _ _ _ _ _ _ _ _ _ _ _ _ _ _ _ _ _ _ _ => fnd 16 (bodyOf Try.f18) []
  | .j36 _ _ _ _ _ _ _ => fnd 36 (bodyOf Try.f18) []
  | .j31 _ _ _ _ _ _ _ _ _ _ _ _ _ _ _ => fnd 31 (bodyOf Try.f18) []
  | .j20 _ _ _ _ _ _ _ _ _ _ _ _ _ _ _ _ _ _ _ _ _ => fnd 20 (bodyOf Try.f18) []
noncomputable def em18 : J18 → St TT
  | .j3 x0 => ⟨[(1, .ptr 0 0)], [(0, .cells 44 [.row 49 x0])], 1⟩
  | .j6 x0 x1 x2 x3 x4 x5 => ⟨[(1, .ptr 0 0), (3, .own 1), (4, .own 2), (28, .row 49 x0), (29, .v (.int .i64 x1)), (30, .v (.int .i64 x2))], [(0, .cells 44 [.row 49 x3]), (1, .arr 3 x4), (2, .arr 3 x5)], 3⟩
  | .j23 x0 x1 x2 x3 x4 x5 => ⟨[(1, .ptr 0 0), (3, .own 1), (4, .own 2), (28, .row 49 x0), (29, .v (.int .i64 x1)), (30, .v (.int .i64 x2))], [(0, .cells 44 [.row 49 x3]), (1, .arr 3 x4), (2, .arr 3 x5)], 3⟩
  | .j13 x0 x1 x2 x3 x4 x5 x6 x7 x8 x9 x10 x11 x12 x13 x14 x15 => ⟨[(1, .ptr 0 0), (3, .own 1), (4, .own 2), (5, .v (.int .i64 x0)), (6, .ptr 3 0), (28, .row 49 x1), (29, .v (.int .i64 x2)), (30, .v (.int .i64 x3))], [(0, .cells 44 [.row 49 x4]), (1, .arr 3 x5), (2, .arr 3 x6), (3, .cells 49 [.v (.int .i64 x7), .v (.int .i64 x8), .v (.int .i64 x9), .v (.int .i64 x10), .v (.int .i64 x11), .v (.int .i64 x12), .v (.bool x13), .v (.string x14), .row 67 x15])], 4⟩
  | .j25 x0 x1 x2 x3 x4 => ⟨[(3, .own 0), (4, .own 1), (163, .row 49 x0), (164, .v (.int .i64 x1)), (165, .v (.int .i64 x2))], [(0, .arr 3 x3), (1, .arr 3 x4)], 2⟩
  | .j15 x0 x1 x2 x3 x4 x5 x6 x7 x8 x9 x10 x11 x12 x13 x14 x15 => ⟨[(1, .ptr 0 0), (3, .own 1), (4, .own 2), (5, .v (.int .i64 x0)), (6, .ptr 3 0), (28, .row 49 x1), (29, .v (.int .i64 x2)), (30, .v (.int .i64 x3))], [(0, .cells 44 [.row 49 x4]), (1, .arr 3 x5), (2, .arr 3 x6), (3, .cells 49 [.v (.int .i64 x7), .v (.int .i64 x8), .v (.int .i64 x9), .v (.int .i64 x10), .v (.int .i64 x11), .v (.int .i64 x12), .v (.bool x13), .v (.string x14), .row 67 x15])], 4⟩
  | .j41 x0 x1 x2 x3 x4 => ⟨[(3, .own 0), (4, .own 1), (163, .row 49 x0), (164, .v (.int .i64 x1)), (165, .v (.int .i64 x2))], [(0, .arr 3 x3), (1, .arr 3 x4)], 2⟩
  | .j33 x0 x1 x2 x3 x4 x5 x6 x7 x8 x9 x10 x11 x12 x13 x14 => ⟨[(3, .own 0), (4, .own 1), (9, .v (.int .i64 x0)), (10, .ptr 2 0), (163, .row 49 x1), (164, .v (.int .i64 x2)), (165, .v (.int .i64 x3))], [(0, .arr 3 x4), (1, .arr 3 x5), (2, .cells 49 [.v (.int .i64 x6), .v (.int .i64 x7), .v (.int .i64 x8), .v (.int .i64 x9), .v (.int .i64 x10), .v (.int .i64 x11), .v (.bool x12), .v (.string x13), .row 67 x14])], 3⟩
  | .j30 x0 x1 x2 x3 x4 x5 x6 x7 x8 x9 x10 x11 x12 x13 x14 => ⟨[(3, .own 0), (4, .own 1), (9, .v (.int .i64 x0)), (10, .ptr 2 0), (163, .row 49 x1), (164, .v (.int .i64 x2)), (165, .v (.int .i64 x3))], [(0, .arr 3 x4), (1, .arr 3 x5), (2, .cells 49 [.v (.int .i64 x6), .v (.int .i64 x7), .v (.int .i64 x8), .v (.int .i64 x9), .v (.int .i64 x10), .v (.int .i64 x11), .v (.bool x12), .v (.string x13), .row 67 x14])], 3⟩
  | .j16 x0 x1 x2 x3 x4 x5 x6 x7 x8 x9 x10 x11 x12 x13 x14 x15 x16 x17 x18 => ⟨[(1, .ptr 0 0), (3, .own 1), (4, .own 2), (5, .v (.int .i64 x0)), (6, .ptr 3 0), (28, .row 49 x1), (29, .v (.int .i64 x2)), (30, .v (.int .i64 x3)), (105, .row 67 x4), (106, .v (.int .i64 x5)), (107, .v (.int .i64 x6))], [(0, .cells 44 [.row 49 x7]), (1, .arr 3 x8), (2, .arr 3 x9), (3, .cells 49 [.v (.int .i64 x10), .v (.int .i64 x11), .v (.int .i64 x12), .v (.int .i64 x13), .v (.int .i64 x14), .v (.int .i64 x15), .v (.bool x16), .v (.string x17), .row 67 x18])], 4⟩
  | .j36 x0 x1 x2 x3 x4 x5 x6 => ⟨[(3, .own 0), (4, .own 1), (11, .v (.int .i64 x0)), (12, .v (.int .i64 x1)), (163, .row 49 x2), (164, .v (.int .i64 x3)), (165, .v (.int .i64 x4))], [(0, .arr 3 x5), (1, .arr 3 x6)], 2⟩
  | .j31 x0 x1 x2 x3 x4 x5 x6 x7 x8 x9 x10 x11 x12 x13 x14 => ⟨[(3, .own 0), (4, .own 1), (9, .v (.int .i64 x0)), (10, .ptr 2 0), (163, .row 49 x1), (164, .v (.int .i64 x2)), (165, .v (.int .i64 x3))], [(0, .arr 3 x4), (1, .arr 3 x5), (2, .cells 49 [.v (.int .i64 x6), .v (.int .i64 x7), .v (.int .i64 x8), .v (.int .i64 x9), .v (.int .i64 x10), .v (.int .i64 x11), .v (.bool x12), .v (.string x13), .row 67 x14])], 3⟩
  | .j20 x0 x1 x2 x3 x4 x5 x6 x7 x8 x9 x10 x11 x12 x13 x14 x15 x16 x17 x18 x19 x20 => ⟨[(1, .ptr 0 0), (3, .own 1), (4, .own 2), (5, .v (.int .i64 x0)), (6, .ptr 3 0), (8, .ptr 4 0), (28, .row 49 x1), (29, .v (.int .i64 x2)), (30, .v (.int .i64 x3)), (105, .row 67 x4), (106, .v (.int .i64 x5)), (107, .v (.int .i64 x6))], [(0, .cells 44 [.row 49 x7]), (1, .arr 3 x8), (2, .arr 3 x9), (3, .cells 49 [.v (.int .i64 x10), .v (.int .i64 x11), .v (.int .i64 x12), .v (.int .i64 x13), .v (.int .i64 x14), .v (.int .i64 x15), .v (.bool x16), .v (.string x17), .row 67 x18]), (4, .cells 67 [.v (.string x19), .v (.int .i64 x20)])], 5⟩
noncomputable def step18 (g20 : Int × Int × Int → Option (Bool)) (g33 : S86 → Option (Bool)) (g34 : ByteArray → Option (Bool)) (go : J18 → Option (Bool)) : J18 → Option (Bool)
  | .j3 x0 => (go (.j6 x0 (((x0).length : Nat) : Int) 0 x0 (List.replicate 10 0) (List.replicate 10 0)))
  | .j6 x0 x1 x2 x3 x4 x5 => (cond (decide ((x2 : Int) < x1)) (cond (decide ((0 : Int) ≤ x2)) (cond (decide ((x2 : Int) < (((x0).length : Nat) : Int))) (cond ((((rd49 x0 x2)).f0 : Int) == 0) (((g33 ((rd49 x0 x2)))).bind fun r0 => (cond (!r0) (some false) (go (.j23 x0 x1 x2 x3 x4 x5)))) (((g20 (((rd49 x0 x2)).f0, (1, 2)))).bind fun r1 => (cond (!r1) (some false) (((g20 (((rd49 x0 x2)).f1, (0, 511)))).bind fun r2 => (cond (!r2) (some false) (((g20 (((rd49 x0 x2)).f2, (0, 9)))).bind fun r3 => (cond (!r3) (some false) (((g20 (((rd49 x0 x2)).f3, (0, 9)))).bind fun r4 => (cond (!r4) (some false) (((g20 (((rd49 x0 x2)).f5, (0, 99)))).bind fun r5 => (cond (!r5) (some false) (go (.j13 x2 x0 x1 x2 x3 x4 x5 ((rd49 x0 x2)).f0 ((rd49 x0 x2)).f1 ((rd49 x0 x2)).f2 ((rd49 x0 x2)).f3 ((rd49 x0 x2)).f4 ((rd49 x0 x2)).f5 ((rd49 x0 x2)).f6 ((rd49 x0 x2)).f7 ((rd49 x0 x2)).f8))))))))))))) none) none) (go (.j25 x3 (((x3).length : Nat) : Int) 0 x4 x5)))
  | .j23 x0 x1 x2 x3 x4 x5 => (go (.j6 x0 x1 (w64 (x2 + 1)) x3 x4 x5))
  | .j13 x0 x1 x2 x3 x4 x5 x6 x7 x8 x9 x10 x11 x12 x13 x14 x15 => (cond ((x7 : Int) == 1) (cond (decide (((((x14).size : Nat) : Int) : Int) > 40)) (some false) (cond (decide (((((x15).length : Nat) : Int) : Int) > 0)) (some false) (cond ((x7 : Int) == 2) (cond (!((x14).toList == ((⟨#[]⟩ : ByteArray)).toList)) (some false) (cond x13 (some false) (cond (decide (((((x15).length : Nat) : Int) : Int) > 6)) (some false) (go (.j15 x0 x1 x2 x3 x4 x5 x6 x7 x8 x9 x10 x11 x12 x13 x14 x15))))) (go (.j15 x0 x1 x2 x3 x4 x5 x6 x7 x8 x9 x10 x11 x12 x13 x14 x15))))) (cond ((x7 : Int) == 2) (cond (!((x14).toList == ((⟨#[]⟩ : ByteArray)).toList)) (some false) (cond x13 (some false) (cond (decide (((((x15).length : Nat) : Int) : Int) > 6)) (some false) (go (.j15 x0 x1 x2 x3 x4 x5 x6 x7 x8 x9 x10 x11 x12 x13 x14 x15))))) (go (.j15 x0 x1 x2 x3 x4 x5 x6 x7 x8 x9 x10 x11 x12 x13 x14 x15))))
  | .j25 x0 x1 x2 x3 x4 => (cond (decide ((x2 : Int) < x1)) (cond (decide ((0 : Int) ≤ x2)) (cond (decide ((x2 : Int) < (((x0).length : Nat) : Int))) (cond ((((rd49 x0 x2)).f0 : Int) == 0) (go (.j41 x0 x1 x2 x3 x4)) (cond (decide ((0 : Int) ≤ x2)) (cond (decide ((x2 : Int) < (((x3).length : Nat) : Int))) (cond (decide ((0 : Int) ≤ x2)) (cond (decide ((x2 : Int) < (((x3).length : Nat) : Int))) (cond ((((rd49 x0 x2)).f4 : Int) != (rd3 x3 x2)) (cond ((((rd49 x0 x2)).f4 : Int) != (rd3 x3 x2)) (some false) (go (.j33 x2 x0 x1 x2 x3 x4 ((rd49 x0 x2)).f0 ((rd49 x0 x2)).f1 ((rd49 x0 x2)).f2 ((rd49 x0 x2)).f3 ((rd49 x0 x2)).f4 ((rd49 x0 x2)).f5 ((rd49 x0 x2)).f6 ((rd49 x0 x2)).f7 ((rd49 x0 x2)).f8))) (cond ((((rd49 x0 x2)).f0 : Int) == 1) (cond ((((rd49 x0 x2)).f4 : Int) == 0) (cond ((((rd49 x0 x2)).f5 : Int) == 0) (cond ((((rd49 x0 x2)).f5 : Int) == 0) (some false) (go (.j33 x2 x0 x1 x2 x3 x4 ((rd49 x0 x2)).f0 ((rd49 x0 x2)).f1 ((rd49 x0 x2)).f2 ((rd49 x0 x2)).f3 ((rd49 x0 x2)).f4 ((rd49 x0 x2)).f5 ((rd49 x0 x2)).f6 ((rd49 x0 x2)).f7 ((rd49 x0 x2)).f8))) (go (.j30 x2 x0 x1 x2 x3 x4 ((rd49 x0 x2)).f0 ((rd49 x0 x2)).f1 ((rd49 x0 x2)).f2 ((rd49 x0 x2)).f3 ((rd49 x0 x2)).f4 ((rd49 x0 x2)).f5 ((rd49 x0 x2)).f6 ((rd49 x0 x2)).f7 ((rd49 x0 x2)).f8))) (go (.j30 x2 x0 x1 x2 x3 x4 ((rd49 x0 x2)).f0 ((rd49 x0 x2)).f1 ((rd49 x0 x2)).f2 ((rd49 x0 x2)).f3 ((rd49 x0 x2)).f4 ((rd49 x0 x2)).f5 ((rd49 x0 x2)).f6 ((rd49 x0 x2)).f7 ((rd49 x0 x2)).f8))) (go (.j30 x2 x0 x1 x2 x3 x4 ((rd49 x0 x2)).f0 ((rd49 x0 x2)).f1 ((rd49 x0 x2)).f2 ((rd49 x0 x2)).f3 ((rd49 x0 x2)).f4 ((rd49 x0 x2)).f5 ((rd49 x0 x2)).f6 ((rd49 x0 x2)).f7 ((rd49 x0 x2)).f8)))) none) none) none) none)) none) none) (some true))
  | .j15 x0 x1 x2 x3 x4 x5 x6 x7 x8 x9 x10 x11 x12 x13 x14 x15 => (go (.j16 x0 x1 x2 x3 x15 (((x15).length : Nat) : Int) 0 x4 x5 x6 x7 x8 x9 x10 x11 x12 x13 x14 x15))
  | .j41 x0 x1 x2 x3 x4 => (go (.j25 x0 x1 (w64 (x2 + 1)) x3 x4))
  | .j33 x0 x1 x2 x3 x4 x5 x6 x7 x8 x9 x10 x11 x12 x13 x14 => (cond ((x6 : Int) == 2) (go (.j36 x0 0 x1 x2 x3 x4 x5)) (go (.j41 x1 x2 x3 x4 x5)))
  | .j30 x0 x1 x2 x3 x4 x5 x6 x7 x8 x9 x10 x11 x12 x13 x14 => (cond ((x6 : Int) == 2) (cond (decide ((x0 : Int) > 0)) (cond ((x10 : Int) != 1) (cond ((x10 : Int) != 1) (some false) (go (.j33 x0 x1 x2 x3 x4 x5 x6 x7 x8 x9 x10 x11 x12 x13 x14))) (go (.j31 x0 x1 x2 x3 x4 x5 x6 x7 x8 x9 x10 x11 x12 x13 x14))) (go (.j31 x0 x1 x2 x3 x4 x5 x6 x7 x8 x9 x10 x11 x12 x13 x14))) (go (.j31 x0 x1 x2 x3 x4 x5 x6 x7 x8 x9 x10 x11 x12 x13 x14)))
  | .j16 x0 x1 x2 x3 x4 x5 x6 x7 x8 x9 x10 x11 x12 x13 x14 x15 x16 x17 x18 => (cond (decide ((x6 : Int) < x5)) (cond (decide ((0 : Int) ≤ x6)) (cond (decide ((x6 : Int) < (((x4).length : Nat) : Int))) (((g34 ((rd67 x4 x6)).f0)).bind fun r6 => (cond (!r6) (some false) (((g20 (((rd67 x4 x6)).f1, (0, 9)))).bind fun r7 => (cond (!r7) (some false) (cond (decide ((0 : Int) ≤ ((rd67 x4 x6)).f1)) (cond (decide ((((rd67 x4 x6)).f1 : Int) < (((x7).length : Nat) : Int))) (cond ((((rd49 x7 ((rd67 x4 x6)).f1)).f0 : Int) == 0) (some false) (cond (decide ((x6 : Int) > 0)) (cond (decide ((0 : Int) ≤ (w64 (x6 - 1)))) (cond (decide (((w64 (x6 - 1)) : Int) < (((x18).length : Nat) : Int))) (cond (!(Go.Op.bytesLess (((rd67 x18 (w64 (x6 - 1)))).f0).toList (((rd67 x4 x6)).f0).toList)) (some false) (go (.j20 x0 x1 x2 x3 x4 x5 x6 x7 x8 x9 x10 x11 x12 x13 x14 x15 x16 x17 x18 ((rd67 x4 x6)).f0 ((rd67 x4 x6)).f1))) none) none) (go (.j20 x0 x1 x2 x3 x4 x5 x6 x7 x8 x9 x10 x11 x12 x13 x14 x15 x16 x17 x18 ((rd67 x4 x6)).f0 ((rd67 x4 x6)).f1)))) none) none))))) none) none) (go (.j23 x1 x2 x3 x7 x8 x9)))
  | .j36 x0 x1 x2 x3 x4 x5 x6 => (cond ((x0 : Int) != 0) (cond (decide ((x1 : Int) > 10)) (some false) (cond (decide ((0 : Int) ≤ x0)) (cond (decide ((x0 : Int) < (((x6).length : Nat) : Int))) (cond (decide ((0 : Int) ≤ x0)) (cond (decide ((x0 : Int) < (((x6).length : Nat) : Int))) (go (.j36 (rd3 x6 x0) (w64 (x1 + 1)) x2 x3 x4 x5 x6)) none) none) none) none)) (go (.j41 x2 x3 x4 x5 x6)))
  | .j31 x0 x1 x2 x3 x4 x5 x6 x7 x8 x9 x10 x11 x12 x13 x14 => (cond ((x0 : Int) == 0) (cond ((x10 : Int) != 0) (some false) (go (.j33 x0 x1 x2 x3 x4 x5 x6 x7 x8 x9 x10 x11 x12 x13 x14))) (go (.j33 x0 x1 x2 x3 x4 x5 x6 x7 x8 x9 x10 x11 x12 x13 x14)))
  | .j20 x0 x1 x2 x3 x4 x5 x6 x7 x8 x9 x10 x11 x12 x13 x14 x15 x16 x17 x18 x19 x20 => (cond (decide ((0 : Int) ≤ x20)) (cond (decide ((x20 : Int) < (((x8).length : Nat) : Int))) (cond (decide ((0 : Int) ≤ x20)) (cond (decide ((x20 : Int) < (((x8).length : Nat) : Int))) (cond (decide ((0 : Int) ≤ x20)) (cond (decide ((x20 : Int) < (((x8).length : Nat) : Int))) (cond (decide ((0 : Int) ≤ x20)) (cond (decide ((x20 : Int) < (((x8).length : Nat) : Int))) (cond (decide ((0 : Int) ≤ x20)) (cond (decide ((x20 : Int) < (((x9).length : Nat) : Int))) (cond (decide ((0 : Int) ≤ x20)) (cond (decide ((x20 : Int) < (((x9).length : Nat) : Int))) (go (.j16 x0 x1 x2 x3 x4 x5 (w64 (x6 + 1)) x7 (List.set x8 (x20).toNat (w64 ((rd3 x8 x20) + 1))) (List.set x9 (x20).toNat x0) x10 x11 x12 x13 x14 x15 x16 x17 x18)) none) none) none) none) none) none) none) none) none) none) none) none)
noncomputable def start18 (g20 : Int × Int × Int → Option (Bool)) (g33 : S86 → Option (Bool)) (g34 : ByteArray → Option (Bool)) (go : J18 → Option (Bool)) : S63 → Option (Bool)
  | x0 => (cond ((((((x0).f0).length : Nat) : Int) : Int) != 10) (some false) (cond (decide ((0 : Int) < ((((x0).f0).length : Nat) : Int))) (cond ((((rd49 (x0).f0 0)).f0 : Int) != 2) (some false) (go (.j3 (x0).f0))) none))
noncomputable def f18 (k : Nat) : S63 → Option (Bool) := start18 (f20 k) (f33 k) (f34 k) (run (step18 (f20 k) (f33 k) (f34 k)) k)
theorem st18 (g20 : Int × Int × Int → Option (Bool)) (g33 : S86 → Option (Bool)) (g34 : ByteArray → Option (Bool)) (G : List Item → St TT → Option (Bool)) (p : J18) : evFrom (F18 g20 g33 g34) G 3000 (td18 p) (em18 p) = step18 g20 g33 g34 (fun q => G (td18 q) (em18 q)) p := by
  cases p <;> kernel_rfl
theorem en18 (g20 : Int × Int × Int → Option (Bool)) (g33 : S86 → Option (Bool)) (g34 : ByteArray → Option (Bool)) (G : List Item → St TT → Option (Bool)) (a : S63) : ev (F18 g20 g33 g34) G 3000 [.code (bodyOf Try.f18)] (st0 ((Dl.one (Dc.agg uu 44)).en a)) = start18 g20 g33 g34 (fun q => G (td18 q) (em18 q)) a := by
  kernel_rfl
theorem snd18 (k : Nat) : Snd Try.prog UU 18 (W (Dl.one (Dc.agg uu 44)) (f18 k) (Dc.bool UU)) := by
  refine snd_fn (F := F18 (f20 k) (f33 k) (f34 k)) (fn := Try.f18) (body := bodyOf Try.f18) ⟨uu, tbl_ok ⟨snd20 k, snd33 k, snd34 k, trivial⟩, mixed⟩ (by kernel_rfl) (by kernel_rfl) (by kernel_rfl) rfl rfl rfl (fun a => Nat.le_of_ble_eq_true rfl) ?_
  intro a r h
  refine ⟨3000, k, ?_⟩
  rw [en18, show (fun q => evJ (F18 (f20 k) (f33 k) (f34 k)) 3000 k (td18 q) (em18 q)) = run (step18 (f20 k) (f33 k) (f34 k)) k from funext fun q => evJ_run _ _ _ (st18 (f20 k) (f33 k) (f34 k)) k q]
  exact h
noncomputable def F36 : Fn TT (Bool) := ⟨Try.prog, UU, tbl [], Try.f36.ntmps, Try.f36.results.toList, [4], true, annOf [], finD (Dc.bool UU)⟩
noncomputable def start36 : S86 → Option (Bool)
  | x0 => (some (decide (((x0).f5 : Int) > 0)))
noncomputable def f36 (k : Nat) : S86 → Option (Bool) := start36
theorem en36 (G : List Item → St TT → Option (Bool)) (a : S86) : ev (F36) G 3000 [.code (bodyOf Try.f36)] (st0 ((Dl.one (Dc.agg uu 49)).en a)) = start36 a := by
  kernel_rfl
theorem snd36 (k : Nat) : Snd Try.prog UU 36 (W (Dl.one (Dc.agg uu 49)) (f36 k) (Dc.bool UU)) := by
  refine snd_fn (F := F36) (fn := Try.f36) (body := bodyOf Try.f36) ⟨uu, tbl_ok trivial, mixed⟩ (by kernel_rfl) (by kernel_rfl) (by kernel_rfl) rfl rfl rfl (fun a => Nat.le_of_ble_eq_true rfl) ?_
  intro a r h
  refine ⟨3000, k, ?_⟩
  rw [en36]
  exact h
noncomputable def F47 (g36 : S86 → Option (Bool)) : Fn TT (Int) := ⟨Try.prog, UU, tbl [(36, W (Dl.one (Dc.agg uu 49)) g36 (Dc.bool UU))], Try.f47.ntmps, Try.f47.results.toList, [3], true, annOf [(2, [0, 1, 7, 8])], finD (Dc.int UU .i64)⟩
inductive J47 where
  | j2 (x0 : (List S86)) (x1 : Int) (x2 : Int)
noncomputable def td47 : J47 → List Item
  | .j2 _ _ _ => fnd 2 (bodyOf Try.f47) []
noncomputable def em47 : J47 → St TT
  | .j2 x0 x1 x2 => ⟨[(0, .row 49 x0), (1, .v (.func (.func 36) #[] #[])), (7, .v (.int .i64 x1)), (8, .v (.int .i64 x2))], [], 0⟩
noncomputable def step47 (g36 : S86 → Option (Bool)) (go : J47 → Option (Int)) : J47 → Option (Int)
  | .j2 x0 x1 x2 => (cond (decide ((x2 : Int) < x1)) (cond (decide ((0 : Int) ≤ x2)) (cond (decide ((x2 : Int) < (((x0).length : Nat) : Int))) (((g36 ((rd49 x0 x2)))).bind fun r0 => (cond r0 (some x2) (go (.j2 x0 x1 (w64 (x2 + 1)))))) none) none) (some (-1)))
noncomputable def start47 (g36 : S86 → Option (Bool)) (go : J47 → Option (Int)) : (List S86) × Unit → Option (Int)
  | (x0, x1) => (go (.j2 x0 (((x0).length : Nat) : Int) 0))
noncomputable def f47 (k : Nat) : (List S86) × Unit → Option (Int) := start47 (f36 k) (run (step47 (f36 k)) k)
theorem st47 (g36 : S86 → Option (Bool)) (G : List Item → St TT → Option (Int)) (p : J47) : evFrom (F47 g36) G 3000 (td47 p) (em47 p) = step47 g36 (fun q => G (td47 q) (em47 q)) p := by
  cases p <;> kernel_rfl
theorem en47 (g36 : S86 → Option (Bool)) (G : List Item → St TT → Option (Int)) (a : (List S86) × Unit) : ev (F47 g36) G 3000 [.code (bodyOf Try.f47)] (st0 ((Dl.cons (Dc.row UU 49) (Dl.one (Dc.fn UU 36))).en a)) = start47 g36 (fun q => G (td47 q) (em47 q)) a := by
  obtain ⟨x0, x1⟩ := a
  kernel_rfl
theorem snd47 (k : Nat) : Snd Try.prog UU 47 (W (Dl.cons (Dc.row UU 49) (Dl.one (Dc.fn UU 36))) (f47 k) (Dc.int UU .i64)) := by
  refine snd_fn (F := F47 (f36 k)) (fn := Try.f47) (body := bodyOf Try.f47) ⟨uu, tbl_ok ⟨snd36 k, trivial⟩, mixed⟩ (by kernel_rfl) (by kernel_rfl) (by kernel_rfl) rfl rfl rfl (fun a => Nat.le_of_ble_eq_true rfl) ?_
  intro a r h
  refine ⟨3000, k, ?_⟩
  rw [en47, show (fun q => evJ (F47 (f36 k)) 3000 k (td47 q) (em47 q)) = run (step47 (f36 k)) k from funext fun q => evJ_run _ _ _ (st47 (f36 k)) k q]
  exact h
noncomputable def F35 (g36 : S86 → Option (Bool)) (g47 : (List S86) × Unit → Option (Int)) : Fn TT (Bool) := ⟨Try.prog, UU, tbl [(36, W (Dl.one (Dc.agg uu 49)) g36 (Dc.bool UU)), (47, W (Dl.cons (Dc.row UU 49) (Dl.one (Dc.fn UU 36))) g47 (Dc.int UU .i64))], Try.f35.ntmps, Try.f35.results.toList, [4], true, annOf [], finD (Dc.bool UU)⟩
noncomputable def start35 (g36 : S86 → Option (Bool)) (g47 : (List S86) × Unit → Option (Int)) : (List S86) × Unit → Option (Bool)
  | (x0, x1) => (((g47 (x0, ()))).bind fun r0 => (some (decide ((r0 : Int) ≥ 0))))
noncomputable def f35 (k : Nat) : (List S86) × Unit → Option (Bool) := start35 (f36 k) (f47 k)
theorem en35 (g36 : S86 → Option (Bool)) (g47 : (List S86) × Unit → Option (Int)) (G : List Item → St TT → Option (Bool)) (a : (List S86) × Unit) : ev (F35 g36 g47) G 3000 [.code (bodyOf Try.f35)] (st0 ((Dl.cons (Dc.row UU 49) (Dl.one (Dc.fn UU 36))).en a)) = start35 g36 g47 a := by
  obtain ⟨x0, x1⟩ := a
  kernel_rfl
theorem snd35 (k : Nat) : Snd Try.prog UU 35 (W (Dl.cons (Dc.row UU 49) (Dl.one (Dc.fn UU 36))) (f35 k) (Dc.bool UU)) := by
  refine snd_fn (F := F35 (f36 k) (f47 k)) (fn := Try.f35) (body := bodyOf Try.f35) ⟨uu, tbl_ok ⟨snd36 k, snd47 k, trivial⟩, mixed⟩ (by kernel_rfl) (by kernel_rfl) (by kernel_rfl) rfl rfl rfl (fun a => Nat.le_of_ble_eq_true rfl) ?_
  intro a r h
  refine ⟨3000, k, ?_⟩
  rw [en35]
  exact h
noncomputable def F19 (g35 : (List S86) × Unit → Option (Bool)) (g36 : S86 → Option (Bool)) : Fn TT (Bool) := ⟨Try.prog, UU, tbl [(35, W (Dl.cons (Dc.row UU 49) (Dl.one (Dc.fn UU 36))) g35 (Dc.bool UU)), (36, W (Dl.one (Dc.agg uu 49)) g36 (Dc.bool UU))], Try.f19.ntmps, Try.f19.results.toList, [4], true, annOf [], finD (Dc.bool UU)⟩
noncomputable def start19 (g35 : (List S86) × Unit → Option (Bool)) (g36 : S86 → Option (Bool)) : S63 → Option (Bool)
  | x0 => (((g35 ((x0).f0, ()))).bind fun r0 => (some r0))
noncomputable def f19 (k : Nat) : S63 → Option (Bool) := start19 (f35 k) (f36 k)
theorem en19 (g35 : (List S86) × Unit → Option (Bool)) (g36 : S86 → Option (Bool)) (G : List Item → St TT → Option (Bool)) (a : S63) : ev (F19 g35 g36) G 3000 [.code (bodyOf Try.f19)] (st0 ((Dl.one (Dc.agg uu 44)).en a)) = start19 g35 g36 a := by
  kernel_rfl
theorem snd19 (k : Nat) : Snd Try.prog UU 19 (W (Dl.one (Dc.agg uu 44)) (f19 k) (Dc.bool UU)) := by
  refine snd_fn (F := F19 (f35 k) (f36 k)) (fn := Try.f19) (body := bodyOf Try.f19) ⟨uu, tbl_ok ⟨snd35 k, snd36 k, trivial⟩, mixed⟩ (by kernel_rfl) (by kernel_rfl) (by kernel_rfl) rfl rfl rfl (fun a => Nat.le_of_ble_eq_true rfl) ?_
  intro a r h
  refine ⟨3000, k, ?_⟩
  rw [en19]
  exact h
noncomputable def F8 (g18 : S63 → Option (Bool)) (g20 : Int × Int × Int → Option (Bool)) (g19 : S63 → Option (Bool)) : Fn TT (Bool) := ⟨Try.prog, UU, tbl [(18, W (Dl.one (Dc.agg uu 44)) g18 (Dc.bool UU)), (20, W (Dl.cons (Dc.int UU .i64) (Dl.cons (Dc.int UU .i64) (Dl.one (Dc.int UU .i64)))) g20 (Dc.bool UU)), (19, W (Dl.one (Dc.agg uu 44)) g19 (Dc.bool UU))], Try.f8.ntmps, Try.f8.results.toList, [4], true, annOf [], finD (Dc.bool UU)⟩
noncomputable def start8 (g18 : S63 → Option (Bool)) (g20 : Int × Int × Int → Option (Bool)) (g19 : S63 → Option (Bool)) : S24 → Option (Bool)
  | x0 => (cond ((((((x0).f0).length : Nat) : Int) : Int) != 2) (some false) (cond (decide ((0 : Int) < ((((x0).f0).length : Nat) : Int))) (((g18 ((rd44 (x0).f0 0)))).bind fun r0 => (cond (!r0) (some false) (cond (decide ((1 : Int) < ((((x0).f0).length : Nat) : Int))) (((g18 ((rd44 (x0).f0 1)))).bind fun r1 => (cond (!r1) (some false) (cond (((x0).f1 : Int) == (-1)) (cond (decide ((1 : Int) < ((((x0).f0).length : Nat) : Int))) (((g19 ((rd44 (x0).f0 1)))).bind fun r2 => (some (!r2))) none) (((g20 ((x0).f1, (1, 9)))).bind fun r3 => (cond r3 (cond (decide ((0 : Int) < ((((x0).f0).length : Nat) : Int))) (cond (decide ((0 : Int) ≤ (x0).f1)) (cond (decide (((x0).f1 : Int) < (((((rd44 (x0).f0 0)).f0).length : Nat) : Int))) (cond ((((rd49 ((rd44 (x0).f0 0)).f0 (x0).f1)).f0 : Int) == 2) (cond (decide ((0 : Int) < ((((x0).f0).length : Nat) : Int))) (cond (decide ((0 : Int) ≤ (x0).f1)) (cond (decide (((x0).f1 : Int) < (((((rd44 (x0).f0 0)).f0).length : Nat) : Int))) (some (decide ((((rd49 ((rd44 (x0).f0 0)).f0 (x0).f1)).f5 : Int) > 0))) none) none) none) (some false)) none) none) none) (some false)))))) none))) none))
noncomputable def f8 (k : Nat) : S24 → Option (Bool) := start8 (f18 k) (f20 k) (f19 k)
theorem en8 (g18 : S63 → Option (Bool)) (g20 : Int × Int × Int → Option (Bool)) (g19 : S63 → Option (Bool)) (G : List Item → St TT → Option (Bool)) (a : S24) : ev (F8 g18 g20 g19) G 3000 [.code (bodyOf Try.f8)] (st0 ((Dl.one (Dc.agg uu 29)).en a)) = start8 g18 g20 g19 a := by
  kernel_rfl
theorem snd8 (k : Nat) : Snd Try.prog UU 8 (W (Dl.one (Dc.agg uu 29)) (f8 k) (Dc.bool UU)) := by
  refine snd_fn (F := F8 (f18 k) (f20 k) (f19 k)) (fn := Try.f8) (body := bodyOf Try.f8) ⟨uu, tbl_ok ⟨snd18 k, snd20 k, snd19 k, trivial⟩, mixed⟩ (by kernel_rfl) (by kernel_rfl) (by kernel_rfl) rfl rfl rfl (fun a => Nat.le_of_ble_eq_true rfl) ?_
  intro a r h
  refine ⟨3000, k, ?_⟩
  rw [en8]
  exact h
noncomputable def F39 (g20 : Int × Int × Int → Option (Bool)) : Fn TT (Bool) := ⟨Try.prog, UU, tbl [(20, W (Dl.cons (Dc.int UU .i64) (Dl.cons (Dc.int UU .i64) (Dl.one (Dc.int UU .i64)))) g20 (Dc.bool UU))], Try.f39.ntmps, Try.f39.results.toList, [4], true, annOf [], finD (Dc.bool UU)⟩
noncomputable def start39 (g20 : Int × Int × Int → Option (Bool)) : S63 × Int → Option (Bool)
  | (x0, x1) => (((g20 (x1, (0, (w64 (((((x0).f0).length : Nat) : Int) - 1)))))).bind fun r0 => (cond r0 (cond (decide ((0 : Int) ≤ x1)) (cond (decide ((x1 : Int) < ((((x0).f0).length : Nat) : Int))) (some ((((rd49 (x0).f0 x1)).f0 : Int) != 0)) none) none) (some false)))
noncomputable def f39 (k : Nat) : S63 × Int → Option (Bool) := start39 (f20 k)
theorem en39 (g20 : Int × Int × Int → Option (Bool)) (G : List Item → St TT → Option (Bool)) (a : S63 × Int) : ev (F39 g20) G 3000 [.code (bodyOf Try.f39)] (st0 ((Dl.cons (Dc.agg uu 44) (Dl.one (Dc.int UU .i64))).en a)) = start39 g20 a := by
  obtain ⟨x0, x1⟩ := a
  kernel_rfl
theorem snd39 (k : Nat) : Snd Try.prog UU 39 (W (Dl.cons (Dc.agg uu 44) (Dl.one (Dc.int UU .i64))) (f39 k) (Dc.bool UU)) := by
  refine snd_fn (F := F39 (f20 k)) (fn := Try.f39) (body := bodyOf Try.f39) ⟨uu, tbl_ok ⟨snd20 k, trivial⟩, mixed⟩ (by kernel_rfl) (by kernel_rfl) (by kernel_rfl) rfl rfl rfl (fun a => Nat.le_of_ble_eq_true rfl) ?_
  intro a r h
  refine ⟨3000, k, ?_⟩
  rw [en39]
  exact h
noncomputable def F26 (g20 : Int × Int × Int → Option (Bool)) (g39 : S63 × Int → Option (Bool)) : Fn TT (Bool) := ⟨Try.prog, UU, tbl [(20, W (Dl.cons (Dc.int UU .i64) (Dl.cons (Dc.int UU .i64) (Dl.one (Dc.int UU .i64)))) g20 (Dc.bool UU)), (39, W (Dl.cons (Dc.agg uu 44) (Dl.one (Dc.int UU .i64))) g39 (Dc.bool UU))], Try.f26.ntmps, Try.f26.results.toList, [4], true, annOf [], finD (Dc.bool UU)⟩
noncomputable def start26 (g20 : Int × Int × Int → Option (Bool)) (g39 : S63 × Int → Option (Bool)) : S24 × S34 → Option (Bool)
  | (x0, x1) => (((g20 ((x1).f0, (0, 1)))).bind fun r0 => (cond r0 (cond (decide ((0 : Int) ≤ (x1).f0)) (cond (decide (((x1).f0 : Int) < ((((x0).f0).length : Nat) : Int))) (((g39 (((rd44 (x0).f0 (x1).f0)), (x1).f1))).bind fun r1 => (some r1)) none) none) (some false)))
noncomputable def f26 (k : Nat) : S24 × S34 → Option (Bool) := start26 (f20 k) (f39 k)
theorem en26 (g20 : Int × Int × Int → Option (Bool)) (g39 : S63 × Int → Option (Bool)) (G : List Item → St TT → Option (Bool)) (a : S24 × S34) : ev (F26 g20 g39) G 3000 [.code (bodyOf Try.f26)] (st0 ((Dl.cons (Dc.agg uu 29) (Dl.one (Dc.agg uu 37))).en a)) = start26 g20 g39 a := by
  obtain ⟨x0, x1⟩ := a
  kernel_rfl
theorem snd26 (k : Nat) : Snd Try.prog UU 26 (W (Dl.cons (Dc.agg uu 29) (Dl.one (Dc.agg uu 37))) (f26 k) (Dc.bool UU)) := by
  refine snd_fn (F := F26 (f20 k) (f39 k)) (fn := Try.f26) (body := bodyOf Try.f26) ⟨uu, tbl_ok ⟨snd20 k, snd39 k, trivial⟩, mixed⟩ (by kernel_rfl) (by kernel_rfl) (by kernel_rfl) rfl rfl rfl (fun a => Nat.le_of_ble_eq_true rfl) ?_
  intro a r h
  refine ⟨3000, k, ?_⟩
  rw [en26]
  exact h
noncomputable def F27 : Fn TT (S86) := ⟨Try.prog, UU, tbl [], Try.f27.ntmps, Try.f27.results.toList, [49], true, annOf [], finD (Dc.agg uu 49)⟩
noncomputable def start27 : S24 × S34 → Option (S86)
  | (x0, x1) => (cond (decide ((0 : Int) ≤ (x1).f0)) (cond (decide (((x1).f0 : Int) < ((((x0).f0).length : Nat) : Int))) (cond (decide ((0 : Int) ≤ (x1).f1)) (cond (decide (((x1).f1 : Int) < (((((rd44 (x0).f0 (x1).f0)).f0).length : Nat) : Int))) (some ((rd49 ((rd44 (x0).f0 (x1).f0)).f0 (x1).f1))) none) none) none) none)
noncomputable def f27 (k : Nat) : S24 × S34 → Option (S86) := start27
theorem en27 (G : List Item → St TT → Option (S86)) (a : S24 × S34) : ev (F27) G 3000 [.code (bodyOf Try.f27)] (st0 ((Dl.cons (Dc.agg uu 29) (Dl.one (Dc.agg uu 37))).en a)) = start27 a := by
  obtain ⟨x0, x1⟩ := a
  kernel_rfl
theorem snd27 (k : Nat) : Snd Try.prog UU 27 (W (Dl.cons (Dc.agg uu 29) (Dl.one (Dc.agg uu 37))) (f27 k) (Dc.agg uu 49)) := by
  refine snd_fn (F := F27) (fn := Try.f27) (body := bodyOf Try.f27) ⟨uu, tbl_ok trivial, mixed⟩ (by kernel_rfl) (by kernel_rfl) (by kernel_rfl) rfl rfl rfl (fun a => Nat.le_of_ble_eq_true rfl) ?_
  intro a r h
  refine ⟨3000, k, ?_⟩
  rw [en27]
  exact h
noncomputable def F28 : Fn TT (Int × ByteArray) := ⟨Try.prog, UU, tbl [], Try.f28.ntmps, Try.f28.results.toList, [3, 9], true, annOf [(2, [1, 11, 12, 13]), (5, [1, 6, 11, 12, 13, 19, 20, 21])], finD (Dc.tup (Dl.cons (Dc.int UU .i64) (Dl.one (Dc.str UU))))⟩
inductive J28 where
  | j2 (x0 : Int) (x1 : (List S86)) (x2 : Int) (x3 : Int)
  | j5 (x0 : Int) (x1 : Int) (x2 : (List S86)) (x3 : Int) (x4 : Int) (x5 : (List S94)) (x6 : Int) (x7 : Int)
noncomputable def td28 : J28 → List Item
  | .j2 _ _ _ _ => fnd 2 (bodyOf Try.f28) []
  | .j5 _ _ _ _ _ _ _ _ => fnd 5 (bodyOf Try.f28) []
noncomputable def em28 : J28 → St TT
  | .j2 x0 x1 x2 x3 => ⟨[(1, .v (.int .i64 x0)), (11, .row 49 x1), (12, .v (.int .i64 x2)), (13, .v (.int .i64 x3))], [], 0⟩
  | .j5 x0 x1 x2 x3 x4 x5 x6 x7 => ⟨[(1, .v (.int .i64 x0)), (6, .v (.int .i64 x1)), (11, .row 49 x2), (12, .v (.int .i64 x3)), (13, .v (.int .i64 x4)), (19, .row 67 x5), (20, .v (.int .i64 x6)), (21, .v (.int .i64 x7))], [], 0⟩
noncomputable def step28 (go : J28 → Option (Int × ByteArray)) : J28 → Option (Int × ByteArray)
  | .j2 x0 x1 x2 x3 => (cond (decide ((x3 : Int) < x2)) (cond (decide ((0 : Int) ≤ x3)) (cond (decide ((x3 : Int) < (((x1).length : Nat) : Int))) (go (.j5 x0 x3 x1 x2 x3 ((rd49 x1 x3)).f8 (((((rd49 x1 x3)).f8).length : Nat) : Int) 0)) none) none) (some (0, (⟨#[]⟩ : ByteArray))))
  | .j5 x0 x1 x2 x3 x4 x5 x6 x7 => (cond (decide ((x7 : Int) < x6)) (cond (decide ((0 : Int) ≤ x7)) (cond (decide ((x7 : Int) < (((x5).length : Nat) : Int))) (cond ((((rd67 x5 x7)).f1 : Int) == x0) (some (x1, ((rd67 x5 x7)).f0)) (go (.j5 x0 x1 x2 x3 x4 x5 x6 (w64 (x7 + 1))))) none) none) (go (.j2 x0 x2 x3 (w64 (x4 + 1)))))
noncomputable def start28 (go : J28 → Option (Int × ByteArray)) : S63 × Int → Option (Int × ByteArray)
  | (x0, x1) => (go (.j2 x1 (x0).f0 ((((x0).f0).length : Nat) : Int) 0))
noncomputable def f28 (k : Nat) : S63 × Int → Option (Int × ByteArray) := start28 (run (step28) k)
theorem st28 (G : List Item → St TT → Option (Int × ByteArray)) (p : J28) : evFrom (F28) G 3000 (td28 p) (em28 p) = step28 (fun q => G (td28 q) (em28 q)) p := by
  cases p <;> kernel_rfl
theorem en28 (G : List Item → St TT → Option (Int × ByteArray)) (a : S63 × Int) : ev (F28) G 3000 [.code (bodyOf Try.f28)] (st0 ((Dl.cons (Dc.agg uu 44) (Dl.one (Dc.int UU .i64))).en a)) = start28 (fun q => G (td28 q) (em28 q)) a := by
  obtain ⟨x0, x1⟩ := a
  kernel_rfl
theorem snd28 (k : Nat) : Snd Try.prog UU 28 (W (Dl.cons (Dc.agg uu 44) (Dl.one (Dc.int UU .i64))) (f28 k) (Dc.tup (Dl.cons (Dc.int UU .i64) (Dl.one (Dc.str UU))))) := by
  refine snd_fn (F := F28) (fn := Try.f28) (body := bodyOf Try.f28) ⟨uu, tbl_ok trivial, mixed⟩ (by kernel_rfl) (by kernel_rfl) (by kernel_rfl) rfl rfl rfl (fun a => Nat.le_of_ble_eq_true rfl) ?_
  intro a r h
  refine ⟨3000, k, ?_⟩
  rw [en28, show (fun q => evJ (F28) 3000 k (td28 q) (em28 q)) = run (step28) k from funext fun q => evJ_run _ _ _ (st28) k q]
  exact h
noncomputable def F12 (g8 : S24 → Option (Bool)) (g26 : S24 × S34 → Option (Bool)) (g27 : S24 × S34 → Option (S86)) (g28 : S63 × Int → Option (Int × ByteArray)) : Fn TT (ByteArray × Bool) := ⟨Try.prog, UU, tbl [(8, W (Dl.one (Dc.agg uu 29)) g8 (Dc.bool UU)), (26, W (Dl.cons (Dc.agg uu 29) (Dl.one (Dc.agg uu 37))) g26 (Dc.bool UU)), (27, W (Dl.cons (Dc.agg uu 29) (Dl.one (Dc.agg uu 37))) g27 (Dc.agg uu 49)), (28, W (Dl.cons (Dc.agg uu 44) (Dl.one (Dc.int UU .i64))) g28 (Dc.tup (Dl.cons (Dc.int UU .i64) (Dl.one (Dc.str UU)))))], Try.f12.ntmps, Try.f12.results.toList, [9, 4], true, annOf [(3, [2, 3]), (5, [2, 3, 6, 7]), (10, [2, 3, 6])], finD (Dc.tup (Dl.cons (Dc.str UU) (Dl.one (Dc.bool UU))))⟩
inductive J12 where
  | j3 (x0 : (List S63)) (x1 : Int) (x2 : Int) (x3 : Int)
  | j5 (x0 : ByteArray) (x1 : Bool) (x2 : (List S63)) (x3 : Int) (x4 : Int) (x5 : Int)
  | j10 (x0 : ByteArray) (x1 : (List S63)) (x2 : Int) (x3 : Int) (x4 : Int)
noncomputable def td12 : J12 → List Item
  | .j3 _ _ _ _ => fnd 3 (bodyOf Try.f12) []
  | .j5 _ _ _ _ _ _ => fnd 5 (bodyOf Try.f12) []
  | .j10 _ _ _ _ _ => fnd 10 (bodyOf Try.f12) []
noncomputable def em12 : J12 → St TT
  | .j3 x0 x1 x2 x3 => ⟨[(2, .ptr 0 0), (3, .ptr 1 0)], [(0, .cells 29 [.row 44 x0, .v (.int .i64 x1)]), (1, .cells 37 [.v (.int .i64 x2), .v (.int .i64 x3)])], 2⟩
  | .j5 x0 x1 x2 x3 x4 x5 => ⟨[(2, .ptr 0 0), (3, .ptr 1 0), (6, .v (.string x0)), (7, .v (.bool x1))], [(0, .cells 29 [.row 44 x2, .v (.int .i64 x3)]), (1, .cells 37 [.v (.int .i64 x4), .v (.int .i64 x5)])], 2⟩
  | .j10 x0 x1 x2 x3 x4 => ⟨[(2, .ptr 0 0), (3, .ptr 1 0), (6, .v (.string x0))], [(0, .cells 29 [.row 44 x1, .v (.int .i64 x2)]), (1, .cells 37 [.v (.int .i64 x3), .v (.int .i64 x4)])], 2⟩
noncomputable def step12 (g8 : S24 → Option (Bool)) (g26 : S24 × S34 → Option (Bool)) (g27 : S24 × S34 → Option (S86)) (g28 : S63 × Int → Option (Int × ByteArray)) (go : J12 → Option (ByteArray × Bool)) : J12 → Option (ByteArray × Bool)
  | .j3 x0 x1 x2 x3 => (go (.j5 (⟨#[]⟩ : ByteArray) true x0 x1 x2 x3))
  | .j5 x0 x1 x2 x3 x4 x5 => (cond (!(((x4 : Int) == 0) && (((x5 : Int) == 0) && true))) (cond (((x4 : Int) == 1) && (((x5 : Int) == 0) && true)) (go (.j10 x0 x2 x3 0 x3)) (cond ((x4 : Int) == 0) (cond ((x5 : Int) == x3) (cond (!x1) (some ((⟨#[]⟩ : ByteArray), false)) (go (.j10 x0 x2 x3 x4 x5))) (go (.j10 x0 x2 x3 x4 x5))) (go (.j10 x0 x2 x3 x4 x5)))) (cond ((x0).toList == ((⟨#[]⟩ : ByteArray)).toList) (some ((⟨#[47]⟩ : ByteArray), true)) (some (x0, true))))
  | .j10 x0 x1 x2 x3 x4 => (cond (decide ((0 : Int) ≤ x3)) (cond (decide ((x3 : Int) < (((x1).length : Nat) : Int))) (((g28 (((rd44 x1 x3)), x4))).bind fun r3 => (cond (decide (((((((⟨#[47]⟩ : ByteArray)).size + ((r3).snd).size) : Nat) : Int) : Int) ≤ 9223372036854775807)) (cond (decide ((((((((⟨#[47]⟩ : ByteArray) ++ (r3).snd)).size + (x0).size) : Nat) : Int) : Int) ≤ 9223372036854775807)) (go (.j5 (((⟨#[47]⟩ : ByteArray) ++ (r3).snd) ++ x0) false x1 x2 x3 (r3).fst)) none) none)) none) none)
noncomputable def start12 (g8 : S24 → Option (Bool)) (g26 : S24 × S34 → Option (Bool)) (g27 : S24 × S34 → Option (S86)) (g28 : S63 × Int → Option (Int × ByteArray)) (go : J12 → Option (ByteArray × Bool)) : S24 × S34 → Option (ByteArray × Bool)
  | (x0, x1) => (((g8 (x0))).bind fun r0 => (cond (!r0) (some ((⟨#[]⟩ : ByteArray), false)) (((g26 ((x0), (x1)))).bind fun r1 => (cond (!r1) (some ((⟨#[]⟩ : ByteArray), false)) (((g27 ((x0), (x1)))).bind fun r2 => (cond (((r2).f0 : Int) != 2) (some ((⟨#[]⟩ : ByteArray), false)) (cond (((x1).f0 : Int) == 1) (cond (decide (((x0).f1 : Int) < 0)) (some ((⟨#[]⟩ : ByteArray), false)) (go (.j3 (x0).f0 (x0).f1 (x1).f0 (x1).f1))) (go (.j3 (x0).f0 (x0).f1 (x1).f0 (x1).f1)))))))))
noncomputable def f12 (k : Nat) : S24 × S34 → Option (ByteArray × Bool) := start12 (f8 k) (f26 k) (f27 k) (f28 k) (run (step12 (f8 k) (f26 k) (f27 k) (f28 k)) k)
theorem st12 (g8 : S24 → Option (Bool)) (g26 : S24 × S34 → Option (Bool)) (g27 : S24 × S34 → Option (S86)) (g28 : S63 × Int → Option (Int × ByteArray)) (G : List Item → St TT → Option (ByteArray × Bool)) (p : J12) : evFrom (F12 g8 g26 g27 g28) G 3000 (td12 p) (em12 p) = step12 g8 g26 g27 g28 (fun q => G (td12 q) (em12 q)) p := by
  cases p <;> kernel_rfl
theorem en12 (g8 : S24 → Option (Bool)) (g26 : S24 × S34 → Option (Bool)) (g27 : S24 × S34 → Option (S86)) (g28 : S63 × Int → Option (Int × ByteArray)) (G : List Item → St TT → Option (ByteArray × Bool)) (a : S24 × S34) : ev (F12 g8 g26 g27 g28) G 3000 [.code (bodyOf Try.f12)] (st0 ((Dl.cons (Dc.agg uu 29) (Dl.one (Dc.agg uu 37))).en a)) = start12 g8 g26 g27 g28 (fun q => G (td12 q) (em12 q)) a := by
  obtain ⟨x0, x1⟩ := a
  kernel_rfl
theorem snd12 (k : Nat) : Snd Try.prog UU 12 (W (Dl.cons (Dc.agg uu 29) (Dl.one (Dc.agg uu 37))) (f12 k) (Dc.tup (Dl.cons (Dc.str UU) (Dl.one (Dc.bool UU))))) := by
  refine snd_fn (F := F12 (f8 k) (f26 k) (f27 k) (f28 k)) (fn := Try.f12) (body := bodyOf Try.f12) ⟨uu, tbl_ok ⟨snd8 k, snd26 k, snd27 k, snd28 k, trivial⟩, mixed⟩ (by kernel_rfl) (by kernel_rfl) (by kernel_rfl) rfl rfl rfl (fun a => Nat.le_of_ble_eq_true rfl) ?_
  intro a r h
  refine ⟨3000, k, ?_⟩
  rw [en12, show (fun q => evJ (F12 (f8 k) (f26 k) (f27 k) (f28 k)) 3000 k (td12 q) (em12 q)) = run (step12 (f8 k) (f26 k) (f27 k) (f28 k)) k from funext fun q => evJ_run _ _ _ (st12 (f8 k) (f26 k) (f27 k) (f28 k)) k q]
  exact h
noncomputable def F4 (g5 : S24 × Int → Option (Int)) (g7 : S24 → Option (S24)) (g9 : S24 × S24 → Option (Bool)) (g10 : S24 × S34 → Option (ByteArray × Bool)) (g11 : S34 → Option (S34)) (g12 : S24 × S34 → Option (ByteArray × Bool)) : Fn TT (Bool) := ⟨Try.prog, UU, tbl [(5, W (Dl.cons (Dc.agg uu 24) (Dl.one (Dc.int UU .i64))) g5 (Dc.int UU .i64)), (7, W (Dl.one (Dc.agg uu 24)) g7 (Dc.agg uu 29)), (9, W (Dl.cons (Dc.agg uu 29) (Dl.one (Dc.agg uu 29))) g9 (Dc.bool UU)), (10, W (Dl.cons (Dc.agg uu 29) (Dl.one (Dc.agg uu 37))) g10 (Dc.tup (Dl.cons (Dc.str UU) (Dl.one (Dc.bool UU))))), (11, W (Dl.one (Dc.agg uu 34)) g11 (Dc.agg uu 37)), (12, W (Dl.cons (Dc.agg uu 29) (Dl.one (Dc.agg uu 37))) g12 (Dc.tup (Dl.cons (Dc.str UU) (Dl.one (Dc.bool UU)))))], Try.f4.ntmps, Try.f4.results.toList, [4], true, annOf [], finD (Dc.bool UU)⟩
noncomputable def start4 (g5 : S24 × Int → Option (Int)) (g7 : S24 → Option (S24)) (g9 : S24 × S24 → Option (Bool)) (g10 : S24 × S34 → Option (ByteArray × Bool)) (g11 : S34 → Option (S34)) (g12 : S24 × S34 → Option (ByteArray × Bool)) : S24 × S34 → Option (Bool)
  | (x0, x1) => (((g5 ((x0), 1048576))).bind fun r0 => (cond (decide ((r0 : Int) < 0)) (some true) (((g7 (x0))).bind fun r1 => (((g11 (x1))).bind fun r2 => (((g10 ((r1), (r2)))).bind fun r3 => (((g7 (x0))).bind fun r4 => (((g11 (x1))).bind fun r5 => (((g12 ((r4), (r5)))).bind fun r6 => (cond (!(((r6).fst).toList == ((r3).fst).toList)) (some false) (cond (!((r6).snd == (r3).snd)) (some false) (((g7 (x0))).bind fun r7 => (((g9 ((r4), (r7)))).bind fun r8 => (cond (!r8) (some false) (some true))))))))))))))
noncomputable def f4 (k : Nat) : S24 × S34 → Option (Bool) := start4 (f5 k) (f7 k) (f9 k) (f10 k) (f11 k) (f12 k)
theorem en4 (g5 : S24 × Int → Option (Int)) (g7 : S24 → Option (S24)) (g9 : S24 × S24 → Option (Bool)) (g10 : S24 × S34 → Option (ByteArray × Bool)) (g11 : S34 → Option (S34)) (g12 : S24 × S34 → Option (ByteArray × Bool)) (G : List Item → St TT → Option (Bool)) (a : S24 × S34) : ev (F4 g5 g7 g9 g10 g11 g12) G 3000 [.code (bodyOf Try.f4)] (st0 ((Dl.cons (Dc.agg uu 24) (Dl.one (Dc.agg uu 34))).en a)) = start4 g5 g7 g9 g10 g11 g12 a := by
  obtain ⟨x0, x1⟩ := a
  kernel_rfl
theorem snd4 (k : Nat) : Snd Try.prog UU 4 (W (Dl.cons (Dc.agg uu 24) (Dl.one (Dc.agg uu 34))) (f4 k) (Dc.bool UU)) := by
  refine snd_fn (F := F4 (f5 k) (f7 k) (f9 k) (f10 k) (f11 k) (f12 k)) (fn := Try.f4) (body := bodyOf Try.f4) ⟨uu, tbl_ok ⟨snd5 k, snd7 k, snd9 k, snd10 k, snd11 k, snd12 k, trivial⟩, mixed⟩ (by kernel_rfl) (by kernel_rfl) (by kernel_rfl) rfl rfl rfl (fun a => Nat.le_of_ble_eq_true rfl) ?_
  intro a r h
  refine ⟨3000, k, ?_⟩
  rw [en4]
  exact h
end Go.Sx
