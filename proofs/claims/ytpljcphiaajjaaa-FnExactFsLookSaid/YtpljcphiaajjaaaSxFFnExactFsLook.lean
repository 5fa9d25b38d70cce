/- What the functions that FnExactFsLook reaches compute, and that they do. No condition. -/
import Derived.Test.YtpljcphiaajjaaaSxU
import Derived.Test.YtpljcphiaajjaaaSxX38
import Derived.Test.YtpljcphiaajjaaaSxX89
set_option linter.unusedVariables false
set_option linter.unusedSimpArgs false
namespace Go.Sx
open Go.RowKit Go.Proofs
noncomputable def F90 : Fn TT (Int) := ⟨Try.prog, UU, tbl [], Try.f90.ntmps, Try.f90.results.toList, [3], true, annOf [], finD (Dc.int UU .i64)⟩
noncomputable def start90 : S47 × Int → Option (Int)
  | (x0, x1) => (cond (decide (((w64 (x1 - ((((x0).f0).size : Nat) : Int))) : Int) < 0)) (some (-1)) (some (w64 (x1 - ((((x0).f0).size : Nat) : Int)))))
noncomputable def f90 (k : Nat) : S47 × Int → Option (Int) := start90
theorem en90 (G : List Item → St TT → Option (Int)) (a : S47 × Int) : ev (F90) G 3000 [.code (bodyOf Try.f90)] (st0 ((Dl.cons (Dc.agg uu 126) (Dl.one (Dc.int UU .i64))).en a)) = start90 a := by
  obtain ⟨x0, x1⟩ := a
  kernel_rfl
theorem snd90 (k : Nat) : Snd Try.prog UU 90 (W (Dl.cons (Dc.agg uu 126) (Dl.one (Dc.int UU .i64))) (f90 k) (Dc.int UU .i64)) := by
  refine snd_fn (F := F90) (fn := Try.f90) (body := bodyOf Try.f90) ⟨uu, tbl_ok trivial, mixed⟩ (by kernel_rfl) (by kernel_rfl) (by kernel_rfl) rfl rfl rfl (fun a => Nat.le_of_ble_eq_true rfl) ?_
  intro a r h
  refine ⟨3000, k, ?_⟩
  rw [en90]
  exact h
noncomputable def F77 (g90 : S47 × Int → Option (Int)) : Fn TT (Int) := ⟨Try.prog, UU, tbl [(90, W (Dl.cons (Dc.agg uu 126) (Dl.one (Dc.int UU .i64))) g90 (Dc.int UU .i64))], Try.f77.ntmps, Try.f77.results.toList, [3], true, annOf [(5, [0, 1, 5])], finD (Dc.int UU .i64)⟩
inductive J77 where
  | j5 (x0 : (List S47)) (x1 : Int) (x2 : Int)
noncomputable def td77 : J77 → List Item
  | .j5 _ _ _ => fnd 5 (bodyOf Try.f77) []
noncomputable def em77 : J77 → St TT
  | .j5 x0 x1 x2 => ⟨[(0, .row 126 x0), (1, .v (.int .i64 x1)), (5, .v (.int .i64 x2))], [], 0⟩
noncomputable def step77 (g90 : S47 × Int → Option (Int)) (go : J77 → Option (Int)) : J77 → Option (Int)
  | .j5 x0 x1 x2 => (cond (decide ((x2 : Int) < (((x0).length : Nat) : Int))) (cond (decide ((0 : Int) ≤ x2)) (cond (decide ((x2 : Int) < (((x0).length : Nat) : Int))) (((g90 (((rd126 x0 x2)), x1))).bind fun r0 => (cond (decide ((r0 : Int) < 0)) (some (-1)) (go (.j5 x0 r0 (w64 (x2 + 1)))))) none) none) (some x1))
noncomputable def start77 (g90 : S47 × Int → Option (Int)) (go : J77 → Option (Int)) : (List S47) × Int → Option (Int)
  | (x0, x1) => (cond (decide (((w64 (x1 - (((x0).length : Nat) : Int))) : Int) < 0)) (some (-1)) (go (.j5 x0 (w64 (x1 - (((x0).length : Nat) : Int))) 0)))
noncomputable def f77 (k : Nat) : (List S47) × Int → Option (Int) := start77 (f90 k) (run (step77 (f90 k)) k)
theorem st77 (g90 : S47 × Int → Option (Int)) (G : List Item → St TT → Option (Int)) (p : J77) : evFrom (F77 g90) G 3000 (td77 p) (em77 p) = step77 g90 (fun q => G (td77 q) (em77 q)) p := by
  cases p <;> kernel_rfl
theorem en77 (g90 : S47 × Int → Option (Int)) (G : List Item → St TT → Option (Int)) (a : (List S47) × Int) : ev (F77 g90) G 3000 [.code (bodyOf Try.f77)] (st0 ((Dl.cons (Dc.row UU 126) (Dl.one (Dc.int UU .i64))).en a)) = start77 g90 (fun q => G (td77 q) (em77 q)) a := by
  obtain ⟨x0, x1⟩ := a
  kernel_rfl
theorem snd77 (k : Nat) : Snd Try.prog UU 77 (W (Dl.cons (Dc.row UU 126) (Dl.one (Dc.int UU .i64))) (f77 k) (Dc.int UU .i64)) := by
  refine snd_fn (F := F77 (f90 k)) (fn := Try.f77) (body := bodyOf Try.f77) ⟨uu, tbl_ok ⟨snd90 k, trivial⟩, mixed⟩ (by kernel_rfl) (by kernel_rfl) (by kernel_rfl) rfl rfl rfl (fun a => Nat.le_of_ble_eq_true rfl) ?_
  intro a r h
  refine ⟨3000, k, ?_⟩
  rw [en77, show (fun q => evJ (F77 (f90 k)) 3000 k (td77 q) (em77 q)) = run (step77 (f90 k)) k from funext fun q => evJ_run _ _ _ (st77 (f90 k)) k q]
  exact h
noncomputable def F65 (g77 : (List S47) × Int → Option (Int)) : Fn TT (Int) := ⟨Try.prog, UU, tbl [(77, W (Dl.cons (Dc.row UU 126) (Dl.one (Dc.int UU .i64))) g77 (Dc.int UU .i64))], Try.f65.ntmps, Try.f65.results.toList, [3], true, annOf [], finD (Dc.int UU .i64)⟩
noncomputable def start65 (g77 : (List S47) × Int → Option (Int)) : S34 × Int → Option (Int)
  | (x0, x1) => (cond (decide (((w64 (x1 - ((((x0).f7).size : Nat) : Int))) : Int) < 0)) (some (-1)) (((g77 ((x0).f8, (w64 (x1 - ((((x0).f7).size : Nat) : Int)))))).bind fun r0 => (cond (decide ((r0 : Int) < 0)) (some (-1)) (some r0))))
noncomputable def f65 (k : Nat) : S34 × Int → Option (Int) := start65 (f77 k)
theorem en65 (g77 : (List S47) × Int → Option (Int)) (G : List Item → St TT → Option (Int)) (a : S34 × Int) : ev (F65 g77) G 3000 [.code (bodyOf Try.f65)] (st0 ((Dl.cons (Dc.agg uu 100) (Dl.one (Dc.int UU .i64))).en a)) = start65 g77 a := by
  obtain ⟨x0, x1⟩ := a
  kernel_rfl
theorem snd65 (k : Nat) : Snd Try.prog UU 65 (W (Dl.cons (Dc.agg uu 100) (Dl.one (Dc.int UU .i64))) (f65 k) (Dc.int UU .i64)) := by
  refine snd_fn (F := F65 (f77 k)) (fn := Try.f65) (body := bodyOf Try.f65) ⟨uu, tbl_ok ⟨snd77 k, trivial⟩, mixed⟩ (by kernel_rfl) (by kernel_rfl) (by kernel_rfl) rfl rfl rfl (fun a => Nat.le_of_ble_eq_true rfl) ?_
  intro a r h
  refine ⟨3000, k, ?_⟩
  rw [en65]
  exact h
noncomputable def F39 (g65 : S34 × Int → Option (Int)) : Fn TT (Int) := ⟨Try.prog, UU, tbl [(65, W (Dl.cons (Dc.agg uu 100) (Dl.one (Dc.int UU .i64))) g65 (Dc.int UU .i64))], Try.f39.ntmps, Try.f39.results.toList, [3], true, annOf [(5, [0, 1, 5])], finD (Dc.int UU .i64)⟩
inductive J39 where
  | j5 (x0 : (List S34)) (x1 : Int) (x2 : Int)
noncomputable def td39 : J39 → List Item
  | .j5 _ _ _ => fnd 5 (bodyOf Try.f39) []
noncomputable def em39 : J39 → St TT
  | .j5 x0 x1 x2 => ⟨[(0, .row 100 x0), (1, .v (.int .i64 x1)), (5, .v (.int .i64 x2))], [], 0⟩
noncomputable def step39 (g65 : S34 × Int → Option (Int)) (go : J39 → Option (Int)) : J39 → Option (Int)
  | .j5 x0 x1 x2 => (cond (decide ((x2 : Int) < (((x0).length : Nat) : Int))) (cond (decide ((0 : Int) ≤ x2)) (cond (decide ((x2 : Int) < (((x0).length : Nat) : Int))) (((g65 (((rd100 x0 x2)), x1))).bind fun r0 => (cond (decide ((r0 : Int) < 0)) (some (-1)) (go (.j5 x0 r0 (w64 (x2 + 1)))))) none) none) (some x1))
noncomputable def start39 (g65 : S34 × Int → Option (Int)) (go : J39 → Option (Int)) : (List S34) × Int → Option (Int)
  | (x0, x1) => (cond (decide (((w64 (x1 - (((x0).length : Nat) : Int))) : Int) < 0)) (some (-1)) (go (.j5 x0 (w64 (x1 - (((x0).length : Nat) : Int))) 0)))
noncomputable def f39 (k : Nat) : (List S34) × Int → Option (Int) := start39 (f65 k) (run (step39 (f65 k)) k)
theorem st39 (g65 : S34 × Int → Option (Int)) (G : List Item → St TT → Option (Int)) (p : J39) : evFrom (F39 g65) G 3000 (td39 p) (em39 p) = step39 g65 (fun q => G (td39 q) (em39 q)) p := by
  cases p <;> kernel_rfl
theorem en39 (g65 : S34 × Int → Option (Int)) (G : List Item → St TT → Option (Int)) (a : (List S34) × Int) : ev (F39 g65) G 3000 [.code (bodyOf Try.f39)] (st0 ((Dl.cons (Dc.row UU 100) (Dl.one (Dc.int UU .i64))).en a)) = start39 g65 (fun q => G (td39 q) (em39 q)) a := by
  obtain ⟨x0, x1⟩ := a
  kernel_rfl
theorem snd39 (k : Nat) : Snd Try.prog UU 39 (W (Dl.cons (Dc.row UU 100) (Dl.one (Dc.int UU .i64))) (f39 k) (Dc.int UU .i64)) := by
  refine snd_fn (F := F39 (f65 k)) (fn := Try.f39) (body := bodyOf Try.f39) ⟨uu, tbl_ok ⟨snd65 k, trivial⟩, mixed⟩ (by kernel_rfl) (by kernel_rfl) (by kernel_rfl) rfl rfl rfl (fun a => Nat.le_of_ble_eq_true rfl) ?_
  intro a r h
  refine ⟨3000, k, ?_⟩
  rw [en39, show (fun q => evJ (F39 (f65 k)) 3000 k (td39 q) (em39 q)) = run (step39 (f65 k)) k from funext fun q => evJ_run _ _ _ (st39 (f65 k)) k q]
  exact h
noncomputable def F15 (g39 : (List S34) × Int → Option (Int)) : Fn TT (Int) := ⟨Try.prog, UU, tbl [(39, W (Dl.cons (Dc.row UU 100) (Dl.one (Dc.int UU .i64))) g39 (Dc.int UU .i64))], Try.f15.ntmps, Try.f15.results.toList, [3], true, annOf [], finD (Dc.int UU .i64)⟩
noncomputable def start15 (g39 : (List S34) × Int → Option (Int)) : S27 × Int → Option (Int)
  | (x0, x1) => (((g39 ((x0).f0, x1))).bind fun r0 => (cond (decide ((r0 : Int) < 0)) (some (-1)) (some r0)))
noncomputable def f15 (k : Nat) : S27 × Int → Option (Int) := start15 (f39 k)
theorem en15 (g39 : (List S34) × Int → Option (Int)) (G : List Item → St TT → Option (Int)) (a : S27 × Int) : ev (F15 g39) G 3000 [.code (bodyOf Try.f15)] (st0 ((Dl.cons (Dc.agg uu 38) (Dl.one (Dc.int UU .i64))).en a)) = start15 g39 a := by
  obtain ⟨x0, x1⟩ := a
  kernel_rfl
theorem snd15 (k : Nat) : Snd Try.prog UU 15 (W (Dl.cons (Dc.agg uu 38) (Dl.one (Dc.int UU .i64))) (f15 k) (Dc.int UU .i64)) := by
  refine snd_fn (F := F15 (f39 k)) (fn := Try.f15) (body := bodyOf Try.f15) ⟨uu, tbl_ok ⟨snd39 k, trivial⟩, mixed⟩ (by kernel_rfl) (by kernel_rfl) (by kernel_rfl) rfl rfl rfl (fun a => Nat.le_of_ble_eq_true rfl) ?_
  intro a r h
  refine ⟨3000, k, ?_⟩
  rw [en15]
  exact h
noncomputable def F91 : Fn TT (S47) := ⟨Try.prog, UU, tbl [], Try.f91.ntmps, Try.f91.results.toList, [47], true, annOf [], finD (Dc.agg uu 47)⟩
noncomputable def start91 : S47 → Option (S47)
  | x0 => (some (x0))
noncomputable def f91 (k : Nat) : S47 → Option (S47) := start91
theorem en91 (G : List Item → St TT → Option (S47)) (a : S47) : ev (F91) G 3000 [.code (bodyOf Try.f91)] (st0 ((Dl.one (Dc.agg uu 126)).en a)) = start91 a := by
  kernel_rfl
theorem snd91 (k : Nat) : Snd Try.prog UU 91 (W (Dl.one (Dc.agg uu 126)) (f91 k) (Dc.agg uu 47)) := by
  refine snd_fn (F := F91) (fn := Try.f91) (body := bodyOf Try.f91) ⟨uu, tbl_ok trivial, mixed⟩ (by kernel_rfl) (by kernel_rfl) (by kernel_rfl) rfl rfl rfl (fun a => Nat.le_of_ble_eq_true rfl) ?_
  intro a r h
  refine ⟨3000, k, ?_⟩
  rw [en91]
  exact h
noncomputable def F78 (g91 : S47 → Option (S47)) : Fn TT ((List S47)) := ⟨Try.prog, UU, tbl [(91, W (Dl.one (Dc.agg uu 126)) g91 (Dc.agg uu 47))], Try.f78.ntmps, Try.f78.results.toList, [32], true, annOf [(3, [0, 3, 4])], finD (Dc.row UU 47)⟩
inductive J78 where
  | j3 (x0 : (List S47)) (x1 : Int) (x2 : (List S47))
noncomputable def td78 : J78 → List Item
  | .j3 _ _ _ => fnd 3 (bodyOf Try.f78) []
noncomputable def em78 : J78 → St TT
  | .j3 x0 x1 x2 => ⟨[(0, .row 126 x0), (3, .own 0), (4, .v (.int .i64 x1))], [(0, .arr 47 x2)], 1⟩
noncomputable def step78 (g91 : S47 → Option (S47)) (go : J78 → Option ((List S47))) : J78 → Option ((List S47))
  | .j3 x0 x1 x2 => (cond (decide ((x1 : Int) < (((x0).length : Nat) : Int))) (cond (decide ((0 : Int) ≤ x1)) (cond (decide ((x1 : Int) < (((x0).length : Nat) : Int))) (((g91 ((rd126 x0 x1)))).bind fun r0 => (cond (decide ((0 : Int) ≤ x1)) (cond (decide ((x1 : Int) < (((x2).length : Nat) : Int))) (cond (decide ((0 : Int) ≤ x1)) (cond (decide ((x1 : Int) < (((x2).length : Nat) : Int))) (go (.j3 x0 (w64 (x1 + 1)) (List.set x2 (x1).toNat (r0)))) none) none) none) none)) none) none) (some x2))
noncomputable def start78 (g91 : S47 → Option (S47)) (go : J78 → Option ((List S47))) : (List S47) → Option ((List S47))
  | x0 => (cond (decide (((24 * (((x0).length : Nat) : Int)) : Int) ≤ 140737488355328)) (cond (decide (((((x0).length : Nat) : Int) : Int) ≤ 140737488355328)) (go (.j3 x0 0 (List.replicate ((((x0).length : Nat) : Int)).toNat (⟨(⟨#[]⟩ : ByteArray), 0⟩ : S47)))) none) none)
noncomputable def f78 (k : Nat) : (List S47) → Option ((List S47)) := start78 (f91 k) (run (step78 (f91 k)) k)
theorem st78 (g91 : S47 → Option (S47)) (G : List Item → St TT → Option ((List S47))) (p : J78) : evFrom (F78 g91) G 3000 (td78 p) (em78 p) = step78 g91 (fun q => G (td78 q) (em78 q)) p := by
  cases p <;> kernel_rfl
theorem en78 (g91 : S47 → Option (S47)) (G : List Item → St TT → Option ((List S47))) (a : (List S47)) : ev (F78 g91) G 3000 [.code (bodyOf Try.f78)] (st0 ((Dl.one (Dc.row UU 126)).en a)) = start78 g91 (fun q => G (td78 q) (em78 q)) a := by
  kernel_rfl
theorem snd78 (k : Nat) : Snd Try.prog UU 78 (W (Dl.one (Dc.row UU 126)) (f78 k) (Dc.row UU 47)) := by
  refine snd_fn (F := F78 (f91 k)) (fn := Try.f78) (body := bodyOf Try.f78) ⟨uu, tbl_ok ⟨snd91 k, trivial⟩, mixed⟩ (by kernel_rfl) (by kernel_rfl) (by kernel_rfl) rfl rfl rfl (fun a => Nat.le_of_ble_eq_true rfl) ?_
  intro a r h
  refine ⟨3000, k, ?_⟩
  rw [en78, show (fun q => evJ (F78 (f91 k)) 3000 k (td78 q) (em78 q)) = run (step78 (f91 k)) k from funext fun q => evJ_run _ _ _ (st78 (f91 k)) k q]
  exact h
noncomputable def F67 (g78 : (List S47) → Option ((List S47))) : Fn TT (S34) := ⟨Try.prog, UU, tbl [(78, W (Dl.one (Dc.row UU 126)) g78 (Dc.row UU 47))], Try.f67.ntmps, Try.f67.results.toList, [34], true, annOf [], finD (Dc.agg uu 34)⟩
noncomputable def start67 (g78 : (List S47) → Option ((List S47))) : S34 → Option (S34)
  | x0 => (((g78 (x0).f8)).bind fun r0 => (some (⟨(x0).f0, (x0).f1, (x0).f2, (x0).f3, (x0).f4, (x0).f5, (x0).f6, (x0).f7, r0⟩ : S34)))
noncomputable def f67 (k : Nat) : S34 → Option (S34) := start67 (f78 k)
theorem en67 (g78 : (List S47) → Option ((List S47))) (G : List Item → St TT → Option (S34)) (a : S34) : ev (F67 g78) G 3000 [.code (bodyOf Try.f67)] (st0 ((Dl.one (Dc.agg uu 100)).en a)) = start67 g78 a := by
  kernel_rfl
theorem snd67 (k : Nat) : Snd Try.prog UU 67 (W (Dl.one (Dc.agg uu 100)) (f67 k) (Dc.agg uu 34)) := by
  refine snd_fn (F := F67 (f78 k)) (fn := Try.f67) (body := bodyOf Try.f67) ⟨uu, tbl_ok ⟨snd78 k, trivial⟩, mixed⟩ (by kernel_rfl) (by kernel_rfl) (by kernel_rfl) rfl rfl rfl (fun a => Nat.le_of_ble_eq_true rfl) ?_
  intro a r h
  refine ⟨3000, k, ?_⟩
  rw [en67]
  exact h
noncomputable def F42 (g67 : S34 → Option (S34)) : Fn TT ((List S34)) := ⟨Try.prog, UU, tbl [(67, W (Dl.one (Dc.agg uu 100)) g67 (Dc.agg uu 34))], Try.f42.ntmps, Try.f42.results.toList, [25], true, annOf [(3, [0, 3, 4])], finD (Dc.row UU 34)⟩
inductive J42 where
  | j3 (x0 : (List S34)) (x1 : Int) (x2 : (List S34))
noncomputable def td42 : J42 → List Item
  | .j3 _ _ _ => fnd 3 (bodyOf Try.f42) []
noncomputable def em42 : J42 → St TT
  | .j3 x0 x1 x2 => ⟨[(0, .row 100 x0), (3, .own 0), (4, .v (.int .i64 x1))], [(0, .arr 34 x2)], 1⟩
noncomputable def step42 (g67 : S34 → Option (S34)) (go : J42 → Option ((List S34))) : J42 → Option ((List S34))
  | .j3 x0 x1 x2 => (cond (decide ((x1 : Int) < (((x0).length : Nat) : Int))) (cond (decide ((0 : Int) ≤ x1)) (cond (decide ((x1 : Int) < (((x0).length : Nat) : Int))) (((g67 ((rd100 x0 x1)))).bind fun r0 => (cond (decide ((0 : Int) ≤ x1)) (cond (decide ((x1 : Int) < (((x2).length : Nat) : Int))) (cond (decide ((0 : Int) ≤ x1)) (cond (decide ((x1 : Int) < (((x2).length : Nat) : Int))) (go (.j3 x0 (w64 (x1 + 1)) (List.set x2 (x1).toNat (r0)))) none) none) none) none)) none) none) (some x2))
noncomputable def start42 (g67 : S34 → Option (S34)) (go : J42 → Option ((List S34))) : (List S34) → Option ((List S34))
  | x0 => (cond (decide (((96 * (((x0).length : Nat) : Int)) : Int) ≤ 140737488355328)) (cond (decide (((((x0).length : Nat) : Int) : Int) ≤ 140737488355328)) (go (.j3 x0 0 (List.replicate ((((x0).length : Nat) : Int)).toNat (⟨0, 0, 0, 0, 0, 0, false, (⟨#[]⟩ : ByteArray), ([] : List S47)⟩ : S34)))) none) none)
noncomputable def f42 (k : Nat) : (List S34) → Option ((List S34)) := start42 (f67 k) (run (step42 (f67 k)) k)
theorem st42 (g67 : S34 → Option (S34)) (G : List Item → St TT → Option ((List S34))) (p : J42) : evFrom (F42 g67) G 3000 (td42 p) (em42 p) = step42 g67 (fun q => G (td42 q) (em42 q)) p := by
  cases p <;> kernel_rfl
theorem en42 (g67 : S34 → Option (S34)) (G : List Item → St TT → Option ((List S34))) (a : (List S34)) : ev (F42 g67) G 3000 [.code (bodyOf Try.f42)] (st0 ((Dl.one (Dc.row UU 100)).en a)) = start42 g67 (fun q => G (td42 q) (em42 q)) a := by
  kernel_rfl
theorem snd42 (k : Nat) : Snd Try.prog UU 42 (W (Dl.one (Dc.row UU 100)) (f42 k) (Dc.row UU 34)) := by
  refine snd_fn (F := F42 (f67 k)) (fn := Try.f42) (body := bodyOf Try.f42) ⟨uu, tbl_ok ⟨snd67 k, trivial⟩, mixed⟩ (by kernel_rfl) (by kernel_rfl) (by kernel_rfl) rfl rfl rfl (fun a => Nat.le_of_ble_eq_true rfl) ?_
  intro a r h
  refine ⟨3000, k, ?_⟩
  rw [en42, show (fun q => evJ (F42 (f67 k)) 3000 k (td42 q) (em42 q)) = run (step42 (f67 k)) k from funext fun q => evJ_run _ _ _ (st42 (f67 k)) k q]
  exact h
noncomputable def F17 (g42 : (List S34) → Option ((List S34))) : Fn TT (S27) := ⟨Try.prog, UU, tbl [(42, W (Dl.one (Dc.row UU 100)) g42 (Dc.row UU 34))], Try.f17.ntmps, Try.f17.results.toList, [27], true, annOf [], finD (Dc.agg uu 27)⟩
noncomputable def start17 (g42 : (List S34) → Option ((List S34))) : S27 → Option (S27)
  | x0 => (((g42 (x0).f0)).bind fun r0 => (some (⟨r0⟩ : S27)))
noncomputable def f17 (k : Nat) : S27 → Option (S27) := start17 (f42 k)
theorem en17 (g42 : (List S34) → Option ((List S34))) (G : List Item → St TT → Option (S27)) (a : S27) : ev (F17 g42) G 3000 [.code (bodyOf Try.f17)] (st0 ((Dl.one (Dc.agg uu 38)).en a)) = start17 g42 a := by
  kernel_rfl
theorem snd17 (k : Nat) : Snd Try.prog UU 17 (W (Dl.one (Dc.agg uu 38)) (f17 k) (Dc.agg uu 27)) := by
  refine snd_fn (F := F17 (f42 k)) (fn := Try.f17) (body := bodyOf Try.f17) ⟨uu, tbl_ok ⟨snd42 k, trivial⟩, mixed⟩ (by kernel_rfl) (by kernel_rfl) (by kernel_rfl) rfl rfl rfl (fun a => Nat.le_of_ble_eq_true rfl) ?_
  intro a r h
  refine ⟨3000, k, ?_⟩
  rw [en17]
  exact h
noncomputable def F92 : Fn TT (Bool) := ⟨Try.prog, UU, tbl [], Try.f92.ntmps, Try.f92.results.toList, [4], true, annOf [], finD (Dc.bool UU)⟩
noncomputable def start92 : S47 × S47 → Option (Bool)
  | (x0, x1) => (cond (!(((x0).f0).toList == ((x1).f0).toList)) (some false) (cond (((x0).f1 : Int) != (x1).f1) (some false) (some true)))
noncomputable def f92 (k : Nat) : S47 × S47 → Option (Bool) := start92
theorem en92 (G : List Item → St TT → Option (Bool)) (a : S47 × S47) : ev (F92) G 3000 [.code (bodyOf Try.f92)] (st0 ((Dl.cons (Dc.agg uu 47) (Dl.one (Dc.agg uu 47))).en a)) = start92 a := by
  obtain ⟨x0, x1⟩ := a
  kernel_rfl
theorem snd92 (k : Nat) : Snd Try.prog UU 92 (W (Dl.cons (Dc.agg uu 47) (Dl.one (Dc.agg uu 47))) (f92 k) (Dc.bool UU)) := by
  refine snd_fn (F := F92) (fn := Try.f92) (body := bodyOf Try.f92) ⟨uu, tbl_ok trivial, mixed⟩ (by kernel_rfl) (by kernel_rfl) (by kernel_rfl) rfl rfl rfl (fun a => Nat.le_of_ble_eq_true rfl) ?_
  intro a r h
  refine ⟨3000, k, ?_⟩
  rw [en92]
  exact h
noncomputable def F79 (g92 : S47 × S47 → Option (Bool)) : Fn TT (Bool) := ⟨Try.prog, UU, tbl [(92, W (Dl.cons (Dc.agg uu 47) (Dl.one (Dc.agg uu 47))) g92 (Dc.bool UU))], Try.f79.ntmps, Try.f79.results.toList, [4], true, annOf [(4, [0, 1, 5])], finD (Dc.bool UU)⟩
inductive J79 where
  | j4 (x0 : (List S47)) (x1 : (List S47)) (x2 : Int)
noncomputable def td79 : J79 → List Item
  | .j4 _ _ _ => fnd 4 (bodyOf Try.f79) []
noncomputable def em79 : J79 → St TT
  | .j4 x0 x1 x2 => ⟨[(0, .row 47 x0), (1, .row 47 x1), (5, .v (.int .i64 x2))], [], 0⟩
noncomputable def step79 (g92 : S47 × S47 → Option (Bool)) (go : J79 → Option (Bool)) : J79 → Option (Bool)
  | .j4 x0 x1 x2 => (cond (decide ((x2 : Int) < (((x0).length : Nat) : Int))) (cond (decide ((0 : Int) ≤ x2)) (cond (decide ((x2 : Int) < (((x0).length : Nat) : Int))) (cond (decide ((0 : Int) ≤ x2)) (cond (decide ((x2 : Int) < (((x1).length : Nat) : Int))) (((g92 (((rd47 x0 x2)), ((rd47 x1 x2))))).bind fun r0 => (cond (!r0) (some false) (go (.j4 x0 x1 (w64 (x2 + 1)))))) none) none) none) none) (some true))
noncomputable def start79 (g92 : S47 × S47 → Option (Bool)) (go : J79 → Option (Bool)) : (List S47) × (List S47) → Option (Bool)
  | (x0, x1) => (cond (((((x0).length : Nat) : Int) : Int) != (((x1).length : Nat) : Int)) (some false) (go (.j4 x0 x1 0)))
noncomputable def f79 (k : Nat) : (List S47) × (List S47) → Option (Bool) := start79 (f92 k) (run (step79 (f92 k)) k)
theorem st79 (g92 : S47 × S47 → Option (Bool)) (G : List Item → St TT → Option (Bool)) (p : J79) : evFrom (F79 g92) G 3000 (td79 p) (em79 p) = step79 g92 (fun q => G (td79 q) (em79 q)) p := by
  cases p <;> kernel_rfl
theorem en79 (g92 : S47 × S47 → Option (Bool)) (G : List Item → St TT → Option (Bool)) (a : (List S47) × (List S47)) : ev (F79 g92) G 3000 [.code (bodyOf Try.f79)] (st0 ((Dl.cons (Dc.row UU 47) (Dl.one (Dc.row UU 47))).en a)) = start79 g92 (fun q => G (td79 q) (em79 q)) a := by
  obtain ⟨x0, x1⟩ := a
  kernel_rfl
theorem snd79 (k : Nat) : Snd Try.prog UU 79 (W (Dl.cons (Dc.row UU 47) (Dl.one (Dc.row UU 47))) (f79 k) (Dc.bool UU)) := by
  refine snd_fn (F := F79 (f92 k)) (fn := Try.f79) (body := bodyOf Try.f79) ⟨uu, tbl_ok ⟨snd92 k, trivial⟩, mixed⟩ (by kernel_rfl) (by kernel_rfl) (by kernel_rfl) rfl rfl rfl (fun a => Nat.le_of_ble_eq_true rfl) ?_
  intro a r h
  refine ⟨3000, k, ?_⟩
  rw [en79, show (fun q => evJ (F79 (f92 k)) 3000 k (td79 q) (em79 q)) = run (step79 (f92 k)) k from funext fun q => evJ_run _ _ _ (st79 (f92 k)) k q]
  exact h
noncomputable def F68 (g79 : (List S47) × (List S47) → Option (Bool)) : Fn TT (Bool) := ⟨Try.prog, UU, tbl [(79, W (Dl.cons (Dc.row UU 47) (Dl.one (Dc.row UU 47))) g79 (Dc.bool UU))], Try.f68.ntmps, Try.f68.results.toList, [4], true, annOf [], finD (Dc.bool UU)⟩
noncomputable def start68 (g79 : (List S47) × (List S47) → Option (Bool)) : S34 × S34 → Option (Bool)
  | (x0, x1) => (cond (((x0).f0 : Int) != (x1).f0) (some false) (cond (((x0).f1 : Int) != (x1).f1) (some false) (cond (((x0).f2 : Int) != (x1).f2) (some false) (cond (((x0).f3 : Int) != (x1).f3) (some false) (cond (((x0).f4 : Int) != (x1).f4) (some false) (cond (((x0).f5 : Int) != (x1).f5) (some false) (cond (!((x0).f6 == (x1).f6)) (some false) (cond (!(((x0).f7).toList == ((x1).f7).toList)) (some false) (((g79 ((x0).f8, (x1).f8))).bind fun r0 => (cond (!r0) (some false) (some true)))))))))))
noncomputable def f68 (k : Nat) : S34 × S34 → Option (Bool) := start68 (f79 k)
theorem en68 (g79 : (List S47) × (List S47) → Option (Bool)) (G : List Item → St TT → Option (Bool)) (a : S34 × S34) : ev (F68 g79) G 3000 [.code (bodyOf Try.f68)] (st0 ((Dl.cons (Dc.agg uu 34) (Dl.one (Dc.agg uu 34))).en a)) = start68 g79 a := by
  obtain ⟨x0, x1⟩ := a
  kernel_rfl
theorem snd68 (k : Nat) : Snd Try.prog UU 68 (W (Dl.cons (Dc.agg uu 34) (Dl.one (Dc.agg uu 34))) (f68 k) (Dc.bool UU)) := by
  refine snd_fn (F := F68 (f79 k)) (fn := Try.f68) (body := bodyOf Try.f68) ⟨uu, tbl_ok ⟨snd79 k, trivial⟩, mixed⟩ (by kernel_rfl) (by kernel_rfl) (by kernel_rfl) rfl rfl rfl (fun a => Nat.le_of_ble_eq_true rfl) ?_
  intro a r h
  refine ⟨3000, k, ?_⟩
  rw [en68]
  exact h
noncomputable def F43 (g68 : S34 × S34 → Option (Bool)) : Fn TT (Bool) := ⟨Try.prog, UU, tbl [(68, W (Dl.cons (Dc.agg uu 34) (Dl.one (Dc.agg uu 34))) g68 (Dc.bool UU))], Try.f43.ntmps, Try.f43.results.toList, [4], true, annOf [(4, [0, 1, 5])], finD (Dc.bool UU)⟩
inductive J43 where
  | j4 (x0 : (List S34)) (x1 : (List S34)) (x2 : Int)
noncomputable def td43 : J43 → List Item
  | .j4 _ _ _ => fnd 4 (bodyOf Try.f43) []
noncomputable def em43 : J43 → St TT
  | .j4 x0 x1 x2 => ⟨[(0, .row 34 x0), (1, .row 34 x1), (5, .v (.int .i64 x2))], [], 0⟩
noncomputable def step43 (g68 : S34 × S34 → Option (Bool)) (go : J43 → Option (Bool)) : J43 → Option (Bool)
  | .j4 x0 x1 x2 => (cond (decide ((x2 : Int) < (((x0).length : Nat) : Int))) (cond (decide ((0 : Int) ≤ x2)) (cond (decide ((x2 : Int) < (((x0).length : Nat) : Int))) (cond (decide ((0 : Int) ≤ x2)) (cond (decide ((x2 : Int) < (((x1).length : Nat) : Int))) (((g68 (((rd34 x0 x2)), ((rd34 x1 x2))))).bind fun r0 => (cond (!r0) (some false) (go (.j4 x0 x1 (w64 (x2 + 1)))))) none) none) none) none) (some true))
noncomputable def start43 (g68 : S34 × S34 → Option (Bool)) (go : J43 → Option (Bool)) : (List S34) × (List S34) → Option (Bool)
  | (x0, x1) => (cond (((((x0).length : Nat) : Int) : Int) != (((x1).length : Nat) : Int)) (some false) (go (.j4 x0 x1 0)))
noncomputable def f43 (k : Nat) : (List S34) × (List S34) → Option (Bool) := start43 (f68 k) (run (step43 (f68 k)) k)
theorem st43 (g68 : S34 × S34 → Option (Bool)) (G : List Item → St TT → Option (Bool)) (p : J43) : evFrom (F43 g68) G 3000 (td43 p) (em43 p) = step43 g68 (fun q => G (td43 q) (em43 q)) p := by
  cases p <;> kernel_rfl
theorem en43 (g68 : S34 × S34 → Option (Bool)) (G : List Item → St TT → Option (Bool)) (a : (List S34) × (List S34)) : ev (F43 g68) G 3000 [.code (bodyOf Try.f43)] (st0 ((Dl.cons (Dc.row UU 34) (Dl.one (Dc.row UU 34))).en a)) = start43 g68 (fun q => G (td43 q) (em43 q)) a := by
  obtain ⟨x0, x1⟩ := a
  kernel_rfl
theorem snd43 (k : Nat) : Snd Try.prog UU 43 (W (Dl.cons (Dc.row UU 34) (Dl.one (Dc.row UU 34))) (f43 k) (Dc.bool UU)) := by
  refine snd_fn (F := F43 (f68 k)) (fn := Try.f43) (body := bodyOf Try.f43) ⟨uu, tbl_ok ⟨snd68 k, trivial⟩, mixed⟩ (by kernel_rfl) (by kernel_rfl) (by kernel_rfl) rfl rfl rfl (fun a => Nat.le_of_ble_eq_true rfl) ?_
  intro a r h
  refine ⟨3000, k, ?_⟩
  rw [en43, show (fun q => evJ (F43 (f68 k)) 3000 k (td43 q) (em43 q)) = run (step43 (f68 k)) k from funext fun q => evJ_run _ _ _ (st43 (f68 k)) k q]
  exact h
noncomputable def F18 (g43 : (List S34) × (List S34) → Option (Bool)) : Fn TT (Bool) := ⟨Try.prog, UU, tbl [(43, W (Dl.cons (Dc.row UU 34) (Dl.one (Dc.row UU 34))) g43 (Dc.bool UU))], Try.f18.ntmps, Try.f18.results.toList, [4], true, annOf [], finD (Dc.bool UU)⟩
noncomputable def start18 (g43 : (List S34) × (List S34) → Option (Bool)) : S27 × S27 → Option (Bool)
  | (x0, x1) => (((g43 ((x0).f0, (x1).f0))).bind fun r0 => (cond (!r0) (some false) (some true)))
noncomputable def f18 (k : Nat) : S27 × S27 → Option (Bool) := start18 (f43 k)
theorem en18 (g43 : (List S34) × (List S34) → Option (Bool)) (G : List Item → St TT → Option (Bool)) (a : S27 × S27) : ev (F18 g43) G 3000 [.code (bodyOf Try.f18)] (st0 ((Dl.cons (Dc.agg uu 27) (Dl.one (Dc.agg uu 27))).en a)) = start18 g43 a := by
  obtain ⟨x0, x1⟩ := a
  kernel_rfl
theorem snd18 (k : Nat) : Snd Try.prog UU 18 (W (Dl.cons (Dc.agg uu 27) (Dl.one (Dc.agg uu 27))) (f18 k) (Dc.bool UU)) := by
  refine snd_fn (F := F18 (f43 k)) (fn := Try.f18) (body := bodyOf Try.f18) ⟨uu, tbl_ok ⟨snd43 k, trivial⟩, mixed⟩ (by kernel_rfl) (by kernel_rfl) (by kernel_rfl) rfl rfl rfl (fun a => Nat.le_of_ble_eq_true rfl) ?_
  intro a r h
  refine ⟨3000, k, ?_⟩
  rw [en18]
  exact h
noncomputable def F49 : Fn TT (Int) := ⟨Try.prog, UU, tbl [], Try.f49.ntmps, Try.f49.results.toList, [3], true, annOf [], finD (Dc.int UU .i64)⟩
noncomputable def start49 : (List Int) × Int → Option (Int)
  | (x0, x1) => (cond (decide (((w64 (x1 - (((x0).length : Nat) : Int))) : Int) < 0)) (some (-1)) (some (w64 (x1 - (((x0).length : Nat) : Int)))))
noncomputable def f49 (k : Nat) : (List Int) × Int → Option (Int) := start49
theorem en49 (G : List Item → St TT → Option (Int)) (a : (List Int) × Int) : ev (F49) G 3000 [.code (bodyOf Try.f49)] (st0 ((Dl.cons (Dc.row UU 3) (Dl.one (Dc.int UU .i64))).en a)) = start49 a := by
  obtain ⟨x0, x1⟩ := a
  kernel_rfl
theorem snd49 (k : Nat) : Snd Try.prog UU 49 (W (Dl.cons (Dc.row UU 3) (Dl.one (Dc.int UU .i64))) (f49 k) (Dc.int UU .i64)) := by
  refine snd_fn (F := F49) (fn := Try.f49) (body := bodyOf Try.f49) ⟨uu, tbl_ok trivial, mixed⟩ (by kernel_rfl) (by kernel_rfl) (by kernel_rfl) rfl rfl rfl (fun a => Nat.le_of_ble_eq_true rfl) ?_
  intro a r h
  refine ⟨3000, k, ?_⟩
  rw [en49]
  exact h
noncomputable def F23 (g49 : (List Int) × Int → Option (Int)) : Fn TT (Int) := ⟨Try.prog, UU, tbl [(49, W (Dl.cons (Dc.row UU 3) (Dl.one (Dc.int UU .i64))) g49 (Dc.int UU .i64))], Try.f23.ntmps, Try.f23.results.toList, [3], true, annOf [], finD (Dc.int UU .i64)⟩
noncomputable def start23 (g49 : (List Int) × Int → Option (Int)) : S52 × Int → Option (Int)
  | (x0, x1) => (((g49 ((x0).f2, x1))).bind fun r0 => (cond (decide ((r0 : Int) < 0)) (some (-1)) (some r0)))
noncomputable def f23 (k : Nat) : S52 × Int → Option (Int) := start23 (f49 k)
theorem en23 (g49 : (List Int) × Int → Option (Int)) (G : List Item → St TT → Option (Int)) (a : S52 × Int) : ev (F23 g49) G 3000 [.code (bodyOf Try.f23)] (st0 ((Dl.cons (Dc.agg uu 52) (Dl.one (Dc.int UU .i64))).en a)) = start23 g49 a := by
  obtain ⟨x0, x1⟩ := a
  kernel_rfl
theorem snd23 (k : Nat) : Snd Try.prog UU 23 (W (Dl.cons (Dc.agg uu 52) (Dl.one (Dc.int UU .i64))) (f23 k) (Dc.int UU .i64)) := by
  refine snd_fn (F := F23 (f49 k)) (fn := Try.f23) (body := bodyOf Try.f23) ⟨uu, tbl_ok ⟨snd49 k, trivial⟩, mixed⟩ (by kernel_rfl) (by kernel_rfl) (by kernel_rfl) rfl rfl rfl (fun a => Nat.le_of_ble_eq_true rfl) ?_
  intro a r h
  refine ⟨3000, k, ?_⟩
  rw [en23]
  exact h
noncomputable def F35 : Fn TT (Bool) := ⟨Try.prog, UU, tbl [], Try.f35.ntmps, Try.f35.results.toList, [4], true, annOf [], finD (Dc.bool UU)⟩
noncomputable def start35 : Int × Int × Int → Option (Bool)
  | (x0, x1, x2) => (cond (decide ((x0 : Int) ≥ x1)) (some (decide ((x0 : Int) ≤ x2))) (some false))
noncomputable def f35 (k : Nat) : Int × Int × Int → Option (Bool) := start35
theorem en35 (G : List Item → St TT → Option (Bool)) (a : Int × Int × Int) : ev (F35) G 3000 [.code (bodyOf Try.f35)] (st0 ((Dl.cons (Dc.int UU .i64) (Dl.cons (Dc.int UU .i64) (Dl.one (Dc.int UU .i64)))).en a)) = start35 a := by
  obtain ⟨x0, x1, x2⟩ := a
  kernel_rfl
theorem snd35 (k : Nat) : Snd Try.prog UU 35 (W (Dl.cons (Dc.int UU .i64) (Dl.cons (Dc.int UU .i64) (Dl.one (Dc.int UU .i64)))) (f35 k) (Dc.bool UU)) := by
  refine snd_fn (F := F35) (fn := Try.f35) (body := bodyOf Try.f35) ⟨uu, tbl_ok trivial, mixed⟩ (by kernel_rfl) (by kernel_rfl) (by kernel_rfl) rfl rfl rfl (fun a => Nat.le_of_ble_eq_true rfl) ?_
  intro a r h
  refine ⟨3000, k, ?_⟩
  rw [en35]
  exact h
noncomputable def F34 (g35 : Int × Int × Int → Option (Bool)) : Fn TT (Bool) := ⟨Try.prog, UU, tbl [(35, W (Dl.cons (Dc.int UU .i64) (Dl.cons (Dc.int UU .i64) (Dl.one (Dc.int UU .i64)))) g35 (Dc.bool UU))], Try.f34.ntmps, Try.f34.results.toList, [4], true, annOf [], finD (Dc.bool UU)⟩
noncomputable def start34 (g35 : Int × Int × Int → Option (Bool)) : Int → Option (Bool)
  | x0 => (((g35 (x0, (0, 9)))).bind fun r0 => (some r0))
noncomputable def f34 (k : Nat) : Int → Option (Bool) := start34 (f35 k)
theorem en34 (g35 : Int × Int × Int → Option (Bool)) (G : List Item → St TT → Option (Bool)) (a : Int) : ev (F34 g35) G 3000 [.code (bodyOf Try.f34)] (st0 ((Dl.one (Dc.int UU .i64)).en a)) = start34 g35 a := by
  kernel_rfl
theorem snd34 (k : Nat) : Snd Try.prog UU 34 (W (Dl.one (Dc.int UU .i64)) (f34 k) (Dc.bool UU)) := by
  refine snd_fn (F := F34 (f35 k)) (fn := Try.f34) (body := bodyOf Try.f34) ⟨uu, tbl_ok ⟨snd35 k, trivial⟩, mixed⟩ (by kernel_rfl) (by kernel_rfl) (by kernel_rfl) rfl rfl rfl (fun a => Nat.le_of_ble_eq_true rfl) ?_
  intro a r h
  refine ⟨3000, k, ?_⟩
  rw [en34]
  exact h
noncomputable def F51 (g35 : Int × Int × Int → Option (Bool)) : Fn TT (Bool) := ⟨Try.prog, UU, tbl [(35, W (Dl.cons (Dc.int UU .i64) (Dl.cons (Dc.int UU .i64) (Dl.one (Dc.int UU .i64)))) g35 (Dc.bool UU))], Try.f51.ntmps, Try.f51.results.toList, [4], true, annOf [(2, [0, 3]), (3, [0, 3])], finD (Dc.bool UU)⟩
inductive J51 where
  | j2 (x0 : ByteArray) (x1 : Int)
  | j3 (x0 : ByteArray) (x1 : Int)
noncomputable def td51 : J51 → List Item
  | .j2 _ _ => fnd 2 (bodyOf Try.f51) []
  | .j3 _ _ => fnd 3 (bodyOf Try.f51) []
noncomputable def em51 : J51 → St TT
  | .j2 x0 x1 => ⟨[(0, .v (.string x0)), (3, .v (.int .i64 x1))], [], 0⟩
  | .j3 x0 x1 => ⟨[(0, .v (.string x0)), (3, .v (.int .i64 x1))], [], 0⟩
noncomputable def step51 (g35 : Int × Int × Int → Option (Bool)) (go : J51 → Option (Bool)) : J51 → Option (Bool)
  | .j2 x0 x1 => (cond (decide ((x1 : Int) < (((x0).size : Nat) : Int))) (cond (decide ((0 : Int) ≤ x1)) (cond (decide ((x1 : Int) < (((x0).size : Nat) : Int))) (cond (decide (((bt x0 x1) : Int) < 97)) (some false) (cond (decide ((0 : Int) ≤ x1)) (cond (decide ((x1 : Int) < (((x0).size : Nat) : Int))) (cond (decide (((bt x0 x1) : Int) > 122)) (some false) (go (.j3 x0 x1))) none) none)) none) none) (((g35 ((((x0).size : Nat) : Int), (1, 3)))).bind fun r0 => (some r0)))
  | .j3 x0 x1 => (go (.j2 x0 (w64 (x1 + 1))))
noncomputable def start51 (g35 : Int × Int × Int → Option (Bool)) (go : J51 → Option (Bool)) : ByteArray → Option (Bool)
  | x0 => (go (.j2 x0 0))
noncomputable def f51 (k : Nat) : ByteArray → Option (Bool) := start51 (f35 k) (run (step51 (f35 k)) k)
theorem st51 (g35 : Int × Int × Int → Option (Bool)) (G : List Item → St TT → Option (Bool)) (p : J51) : evFrom (F51 g35) G 3000 (td51 p) (em51 p) = step51 g35 (fun q => G (td51 q) (em51 q)) p := by
  cases p <;> kernel_rfl
theorem en51 (g35 : Int × Int × Int → Option (Bool)) (G : List Item → St TT → Option (Bool)) (a : ByteArray) : ev (F51 g35) G 3000 [.code (bodyOf Try.f51)] (st0 ((Dl.one (Dc.str UU)).en a)) = start51 g35 (fun q => G (td51 q) (em51 q)) a := by
  kernel_rfl
theorem snd51 (k : Nat) : Snd Try.prog UU 51 (W (Dl.one (Dc.str UU)) (f51 k) (Dc.bool UU)) := by
  refine snd_fn (F := F51 (f35 k)) (fn := Try.f51) (body := bodyOf Try.f51) ⟨uu, tbl_ok ⟨snd35 k, trivial⟩, mixed⟩ (by kernel_rfl) (by kernel_rfl) (by kernel_rfl) rfl rfl rfl (fun a => Nat.le_of_ble_eq_true rfl) ?_
  intro a r h
  refine ⟨3000, k, ?_⟩
  rw [en51, show (fun q => evJ (F51 (f35 k)) 3000 k (td51 q) (em51 q)) = run (step51 (f35 k)) k from funext fun q => evJ_run _ _ _ (st51 (f35 k)) k q]
  exact h
noncomputable def F66 : Fn TT (Bool) := ⟨Try.prog, UU, tbl [], Try.f66.ntmps, Try.f66.results.toList, [4], true, annOf [], finD (Dc.bool UU)⟩
noncomputable def start66 : S34 → Option (Bool)
  | x0 => (cond (((x0).f0 : Int) == 0) (cond (((x0).f1 : Int) == 0) (cond (((x0).f2 : Int) == 0) (cond (((x0).f3 : Int) == 0) (cond (((x0).f4 : Int) == 0) (cond (((x0).f5 : Int) == 0) (cond (!(x0).f6) (cond (((x0).f7).toList == ((⟨#[]⟩ : ByteArray)).toList) (some ((((((x0).f8).length : Nat) : Int) : Int) == 0)) (some false)) (some false)) (some false)) (some false)) (some false)) (some false)) (some false)) (some false))
noncomputable def f66 (k : Nat) : S34 → Option (Bool) := start66
theorem en66 (G : List Item → St TT → Option (Bool)) (a : S34) : ev (F66) G 3000 [.code (bodyOf Try.f66)] (st0 ((Dl.one (Dc.agg uu 34)).en a)) = start66 a := by
  kernel_rfl
theorem snd66 (k : Nat) : Snd Try.prog UU 66 (W (Dl.one (Dc.agg uu 34)) (f66 k) (Dc.bool UU)) := by
  refine snd_fn (F := F66) (fn := Try.f66) (body := bodyOf Try.f66) ⟨uu, tbl_ok trivial, mixed⟩ (by kernel_rfl) (by kernel_rfl) (by kernel_rfl) rfl rfl rfl (fun a => Nat.le_of_ble_eq_true rfl) ?_
  intro a r h
  refine ⟨3000, k, ?_⟩
  rw [en66]
  exact h
noncomputable def F40 (g34 : Int → Option (Bool)) (g35 : Int × Int × Int → Option (Bool)) (g51 : ByteArray → Option (Bool)) (g66 : S34 → Option (Bool)) : Fn TT (Bool) := ⟨Try.prog, UU, tbl [(34, W (Dl.one (Dc.int UU .i64)) g34 (Dc.bool UU)), (35, W (Dl.cons (Dc.int UU .i64) (Dl.cons (Dc.int UU .i64) (Dl.one (Dc.int UU .i64)))) g35 (Dc.bool UU)), (51, W (Dl.one (Dc.str UU)) g51 (Dc.bool UU)), (66, W (Dl.one (Dc.agg uu 34)) g66 (Dc.bool UU))], Try.f40.ntmps, Try.f40.results.toList, [4], true, annOf [(5, [1]), (7, [1]), (8, [1, 3]), (9, [1, 3])], finD (Dc.bool UU)⟩
inductive J40 where
  | j5 (x0 : Int) (x1 : Int) (x2 : Int) (x3 : Int) (x4 : Int) (x5 : Int) (x6 : Bool) (x7 : ByteArray) (x8 : (List S47))
  | j7 (x0 : Int) (x1 : Int) (x2 : Int) (x3 : Int) (x4 : Int) (x5 : Int) (x6 : Bool) (x7 : ByteArray) (x8 : (List S47))
  | j8 (x0 : Int) (x1 : Int) (x2 : Int) (x3 : Int) (x4 : Int) (x5 : Int) (x6 : Int) (x7 : Bool) (x8 : ByteArray) (x9 : (List S47))
  | j9 (x0 : Int) (x1 : Int) (x2 : Int) (x3 : Int) (x4 : Int) (x5 : Int) (x6 : Int) (x7 : Bool) (x8 : ByteArray) (x9 : (List S47))
noncomputable def td40 : J40 → List Item
  | .j5 _ _ _ _ _ _ _ _ _ => fnd 5 (bodyOf Try.f40) []
  | .j7 _ _ _ _ _ _ _ _ _ => fnd 7 (bodyOf Try.f40) []
  | .j8 _ _ _ _ _ _ _ _ _ _ => fnd 8 (bodyOf Try.f40) []
  | .j9 _ _ _ _ _ _ _ _ _ _ => fnd 9 (bodyOf Try.f40) []
noncomputable def em40 : J40 → St TT
  | .j5 x0 x1 x2 x3 x4 x5 x6 x7 x8 => ⟨[(1, .ptr 0 0)], [(0, .cells 34 [.v (.int .i64 x0), .v (.int .i64 x1), .v (.int .i64 x2), .v (.int .i64 x3), .v (.int .i64 x4), .v (.int .i64 x5), .v (.bool x6), .v (.string x7), .row 47 x8])], 1⟩
  | .j7 x0 x1 x2 x3 x4 x5 x6 x7 x8 => ⟨[(1, .ptr 0 0)], [(0, .cells 34 [.v (.int .i64 x0), .v (.int .i64 x1), .v (.int .i64 x2), .v (.int .i64 x3), .v (.int .i64 x4), .v (.int .i64 x5), .v (.bool x6), .v (.string x7), .row 47 x8])], 1⟩
  | .j8 x0 x1 x2 x3 x4 x5 x6 x7 x8 x9 => ⟨[(1, .ptr 0 0), (3, .v (.int .i64 x0))], [(0, .cells 34 [.v (.int .i64 x1), .v (.int .i64 x2), .v (.int .i64 x3), .v (.int .i64 x4), .v (.int .i64 x5), .v (.int .i64 x6), .v (.bool x7), .v (.string x8), .row 47 x9])], 1⟩
  | .j9 x0 x1 x2 x3 x4 x5 x6 x7 x8 x9 => ⟨[(1, .ptr 0 0), (3, .v (.int .i64 x0))], [(0, .cells 34 [.v (.int .i64 x1), .v (.int .i64 x2), .v (.int .i64 x3), .v (.int .i64 x4), .v (.int .i64 x5), .v (.int .i64 x6), .v (.bool x7), .v (.string x8), .row 47 x9])], 1⟩
noncomputable def step40 (g34 : Int → Option (Bool)) (g35 : Int × Int × Int → Option (Bool)) (g51 : ByteArray → Option (Bool)) (g66 : S34 → Option (Bool)) (go : J40 → Option (Bool)) : J40 → Option (Bool)
  | .j5 x0 x1 x2 x3 x4 x5 x6 x7 x8 => (cond ((x0 : Int) == 2) (cond (!((x7).toList == ((⟨#[]⟩ : ByteArray)).toList)) (some false) (cond x6 (some false) (cond ((x0 : Int) == 1) (cond (decide (((((x8).length : Nat) : Int) : Int) > 0)) (some false) (go (.j7 x0 x1 x2 x3 x4 x5 x6 x7 x8))) (go (.j7 x0 x1 x2 x3 x4 x5 x6 x7 x8))))) (cond ((x0 : Int) == 1) (cond (decide (((((x8).length : Nat) : Int) : Int) > 0)) (some false) (go (.j7 x0 x1 x2 x3 x4 x5 x6 x7 x8))) (go (.j7 x0 x1 x2 x3 x4 x5 x6 x7 x8))))
  | .j7 x0 x1 x2 x3 x4 x5 x6 x7 x8 => (go (.j8 0 x0 x1 x2 x3 x4 x5 x6 x7 x8))
  | .j8 x0 x1 x2 x3 x4 x5 x6 x7 x8 x9 => (cond (decide ((x0 : Int) < (((x9).length : Nat) : Int))) (cond (decide ((0 : Int) ≤ x0)) (cond (decide ((x0 : Int) < (((x9).length : Nat) : Int))) (((g51 ((rd47 x9 x0)).f0)).bind fun r7 => (cond (!r7) (some false) (((g35 (((rd47 x9 x0)).f1, (1, 9)))).bind fun r8 => (cond (!r8) (some false) (cond (decide ((x0 : Int) > 0)) (cond (decide ((0 : Int) ≤ (w64 (x0 - 1)))) (cond (decide (((w64 (x0 - 1)) : Int) < (((x9).length : Nat) : Int))) (cond (!(Go.Op.bytesLess (((rd47 x9 (w64 (x0 - 1)))).f0).toList (((rd47 x9 x0)).f0).toList)) (some false) (go (.j9 x0 x1 x2 x3 x4 x5 x6 x7 x8 x9))) none) none) (go (.j9 x0 x1 x2 x3 x4 x5 x6 x7 x8 x9))))))) none) none) (some true))
  | .j9 x0 x1 x2 x3 x4 x5 x6 x7 x8 x9 => (go (.j8 (w64 (x0 + 1)) x1 x2 x3 x4 x5 x6 x7 x8 x9))
noncomputable def start40 (g34 : Int → Option (Bool)) (g35 : Int × Int × Int → Option (Bool)) (g51 : ByteArray → Option (Bool)) (g66 : S34 → Option (Bool)) (go : J40 → Option (Bool)) : S34 → Option (Bool)
  | x0 => (cond (((x0).f0 : Int) == 0) (((g66 (x0))).bind fun r0 => (some r0)) (((g35 ((x0).f0, (1, 2)))).bind fun r1 => (cond (!r1) (some false) (((g35 ((x0).f1, (0, 511)))).bind fun r2 => (cond (!r2) (some false) (((g34 (x0).f2)).bind fun r3 => (cond (!r3) (some false) (((g34 (x0).f3)).bind fun r4 => (cond (!r4) (some false) (((g35 ((x0).f5, (0, 99)))).bind fun r5 => (cond (!r5) (some false) (((g35 ((x0).f4, (0, 99)))).bind fun r6 => (cond (!r6) (some false) (cond (decide ((((((x0).f7).size : Nat) : Int) : Int) > 40)) (some false) (cond (decide ((((((x0).f8).length : Nat) : Int) : Int) > 6)) (some false) (go (.j5 (x0).f0 (x0).f1 (x0).f2 (x0).f3 (x0).f4 (x0).f5 (x0).f6 (x0).f7 (x0).f8)))))))))))))))))
noncomputable def f40 (k : Nat) : S34 → Option (Bool) := start40 (f34 k) (f35 k) (f51 k) (f66 k) (run (step40 (f34 k) (f35 k) (f51 k) (f66 k)) k)
theorem st40 (g34 : Int → Option (Bool)) (g35 : Int × Int × Int → Option (Bool)) (g51 : ByteArray → Option (Bool)) (g66 : S34 → Option (Bool)) (G : List Item → St TT → Option (Bool)) (p : J40) : evFrom (F40 g34 g35 g51 g66) G 3000 (td40 p) (em40 p) = step40 g34 g35 g51 g66 (fun q => G (td40 q) (em40 q)) p := by
  cases p <;> kernel_rfl
theorem en40 (g34 : Int → Option (Bool)) (g35 : Int × Int × Int → Option (Bool)) (g51 : ByteArray → Option (Bool)) (g66 : S34 → Option (Bool)) (G : List Item → St TT → Option (Bool)) (a : S34) : ev (F40 g34 g35 g51 g66) G 3000 [.code (bodyOf Try.f40)] (st0 ((Dl.one (Dc.agg uu 34)).en a)) = start40 g34 g35 g51 g66 (fun q => G (td40 q) (em40 q)) a := by
  kernel_rfl
theorem snd40 (k : Nat) : Snd Try.prog UU 40 (W (Dl.one (Dc.agg uu 34)) (f40 k) (Dc.bool UU)) := by
  refine snd_fn (F := F40 (f34 k) (f35 k) (f51 k) (f66 k)) (fn := Try.f40) (body := bodyOf Try.f40) ⟨uu, tbl_ok ⟨snd34 k, snd35 k, snd51 k, snd66 k, trivial⟩, mixed⟩ (by kernel_rfl) (by kernel_rfl) (by kernel_rfl) rfl rfl rfl (fun a => Nat.le_of_ble_eq_true rfl) ?_
  intro a r h
  refine ⟨3000, k, ?_⟩
  rw [en40, show (fun q => evJ (F40 (f34 k) (f35 k) (f51 k) (f66 k)) 3000 k (td40 q) (em40 q)) = run (step40 (f34 k) (f35 k) (f51 k) (f66 k)) k from funext fun q => evJ_run _ _ _ (st40 (f34 k) (f35 k) (f51 k) (f66 k)) k q]
  exact h
noncomputable def F41 : Fn TT ((List Bool) × Bool) := ⟨Try.prog, UU, tbl [], Try.f41.ntmps, Try.f41.results.toList, [73, 4], true, annOf [(3, [1, 4, 5]), (10, [1, 4, 5, 6, 7]), (11, [1, 4, 5, 6, 7])], finD (Dc.tup (Dl.cons (Dc.row UU 4) (Dl.one (Dc.bool UU))))⟩
inductive J41 where
  | j3 (x0 : (List S34)) (x1 : (List Bool)) (x2 : (List Int))
  | j10 (x0 : Int) (x1 : Int) (x2 : (List S34)) (x3 : (List Bool)) (x4 : (List Int))
  | j11 (x0 : Int) (x1 : Int) (x2 : (List S34)) (x3 : (List Bool)) (x4 : (List Int))
noncomputable def td41 : J41 → List Item
  | .j3 _ _ _ => fnd 3 (bodyOf Try.f41) []
  | .j10 _ _ _ _ _ => fnd 10 (bodyOf Try.f41) []
  | .j11 _ _ _ _ _ => fnd 11 (bodyOf Try.f41) []
noncomputable def em41 : J41 → St TT
  | .j3 x0 x1 x2 => ⟨[(1, .ptr 0 0), (4, .own 1), (5, .own 2)], [(0, .cells 27 [.row 34 x0]), (1, .arr 4 x1), (2, .arr 3 x2)], 3⟩
  | .j10 x0 x1 x2 x3 x4 => ⟨[(1, .ptr 0 0), (4, .own 1), (5, .own 2), (6, .v (.int .i64 x0)), (7, .v (.int .i64 x1))], [(0, .cells 27 [.row 34 x2]), (1, .arr 4 x3), (2, .arr 3 x4)], 3⟩
  | .j11 x0 x1 x2 x3 x4 => ⟨[(1, .ptr 0 0), (4, .own 1), (5, .own 2), (6, .v (.int .i64 x0)), (7, .v (.int .i64 x1))], [(0, .cells 27 [.row 34 x2]), (1, .arr 4 x3), (2, .arr 3 x4)], 3⟩
noncomputable def step41 (go : J41 → Option ((List Bool) × Bool)) : J41 → Option ((List Bool) × Bool)
  | .j3 x0 x1 x2 => (cond (decide (((((x2).length : Nat) : Int) : Int) > 0)) (cond (decide ((0 : Int) < (((x2).length : Nat) : Int))) (cond (decide ((0 : Int) < (((x2).length : Nat) : Int))) (cond (decide ((1 : Int) ≤ (((x2).length : Nat) : Int))) (cond (decide ((((([] : List Int)).length + ((List.drop 1 (List.take (x2).length x2))).length) * 8) ≤ 140737488355328)) (cond (decide ((0 : Int) ≤ (rd3 x2 0))) (cond (decide (((rd3 x2 0) : Int) < (((x1).length : Nat) : Int))) (cond (decide ((0 : Int) ≤ (rd3 x2 0))) (cond (decide (((rd3 x2 0) : Int) < (((x1).length : Nat) : Int))) (cond (rd4 x1 (rd3 x2 0)) (some (x1, false)) (cond (decide ((0 : Int) ≤ (rd3 x2 0))) (cond (decide (((rd3 x2 0) : Int) < (((x1).length : Nat) : Int))) (cond (decide ((0 : Int) ≤ (rd3 x2 0))) (cond (decide (((rd3 x2 0) : Int) < (((x1).length : Nat) : Int))) (go (.j10 (rd3 x2 0) 0 x0 (List.set x1 ((rd3 x2 0)).toNat true) (([] : List Int) ++ (List.drop 1 (List.take (x2).length x2))))) none) none) none) none)) none) none) none) none) none) none) none) none) (some (x1, true)))
  | .j10 x0 x1 x2 x3 x4 => (cond (decide ((0 : Int) ≤ x0)) (cond (decide ((x0 : Int) < (((x2).length : Nat) : Int))) (cond (decide ((x1 : Int) < (((((rd34 x2 x0)).f8).length : Nat) : Int))) (cond (decide ((0 : Int) ≤ x0)) (cond (decide ((x0 : Int) < (((x2).length : Nat) : Int))) (cond (decide ((0 : Int) ≤ x1)) (cond (decide ((x1 : Int) < (((((rd34 x2 x0)).f8).length : Nat) : Int))) (cond (decide ((0 : Int) ≤ ((rd47 ((rd34 x2 x0)).f8 x1)).f1)) (cond (decide ((((rd47 ((rd34 x2 x0)).f8 x1)).f1 : Int) < (((x2).length : Nat) : Int))) (cond ((((rd34 x2 ((rd47 ((rd34 x2 x0)).f8 x1)).f1)).f0 : Int) == 2) (cond (decide ((((x4).length + ([((rd47 ((rd34 x2 x0)).f8 x1)).f1]).length) * 8) ≤ 140737488355328)) (go (.j11 x0 x1 x2 x3 (x4 ++ [((rd47 ((rd34 x2 x0)).f8 x1)).f1]))) none) (go (.j11 x0 x1 x2 x3 x4))) none) none) none) none) none) none) (go (.j3 x2 x3 x4))) none) none)
  | .j11 x0 x1 x2 x3 x4 => (go (.j10 x0 (w64 (x1 + 1)) x2 x3 x4))
noncomputable def start41 (go : J41 → Option ((List Bool) × Bool)) : S27 → Option ((List Bool) × Bool)
  | x0 => (cond (decide (((1 * ((((x0).f0).length : Nat) : Int)) : Int) ≤ 140737488355328)) (cond (decide ((((((x0).f0).length : Nat) : Int) : Int) ≤ 140737488355328)) (go (.j3 (x0).f0 (List.replicate (((((x0).f0).length : Nat) : Int)).toNat false) [0])) none) none)
noncomputable def f41 (k : Nat) : S27 → Option ((List Bool) × Bool) := start41 (run (step41) k)
theorem st41 (G : List Item → St TT → Option ((List Bool) × Bool)) (p : J41) : evFrom (F41) G 3000 (td41 p) (em41 p) = step41 (fun q => G (td41 q) (em41 q)) p := by
  cases p <;> kernel_rfl
theorem en41 (G : List Item → St TT → Option ((List Bool) × Bool)) (a : S27) : ev (F41) G 3000 [.code (bodyOf Try.f41)] (st0 ((Dl.one (Dc.agg uu 27)).en a)) = start41 (fun q => G (td41 q) (em41 q)) a := by
  kernel_rfl
theorem snd41 (k : Nat) : Snd Try.prog UU 41 (W (Dl.one (Dc.agg uu 27)) (f41 k) (Dc.tup (Dl.cons (Dc.row UU 4) (Dl.one (Dc.bool UU))))) := by
  refine snd_fn (F := F41) (fn := Try.f41) (body := bodyOf Try.f41) ⟨uu, tbl_ok trivial, mixed⟩ (by kernel_rfl) (by kernel_rfl) (by kernel_rfl) rfl rfl rfl (fun a => Nat.le_of_ble_eq_true rfl) ?_
  intro a r h
  refine ⟨3000, k, ?_⟩
  rw [en41, show (fun q => evJ (F41) 3000 k (td41 q) (em41 q)) = run (step41) k from funext fun q => evJ_run _ _ _ (st41) k q]
  exact h
noncomputable def F16 (g40 : S34 → Option (Bool)) (g41 : S27 → Option ((List Bool) × Bool)) : Fn TT (Bool) := ⟨Try.prog, UU, tbl [(40, W (Dl.one (Dc.agg uu 34)) g40 (Dc.bool UU)), (41, W (Dl.one (Dc.agg uu 27)) g41 (Dc.tup (Dl.cons (Dc.row UU 4) (Dl.one (Dc.bool UU)))))], Try.f16.ntmps, Try.f16.results.toList, [4], true, annOf [(5, [1, 3, 4]), (10, [1, 3, 4, 5]), (17, [1, 3, 6, 7, 8]), (19, [1, 3, 6, 7, 8]), (18, [1, 3, 6, 7, 8])], finD (Dc.bool UU)⟩
inductive J16 where
  | j5 (x0 : Int) (x1 : (List S34)) (x2 : (List Int))
  | j10 (x0 : Int) (x1 : Int) (x2 : (List S34)) (x3 : (List Int))
  | j17 (x0 : (List Bool)) (x1 : Bool) (x2 : Int) (x3 : (List S34)) (x4 : (List Int))
  | j19 (x0 : (List Bool)) (x1 : Bool) (x2 : Int) (x3 : (List S34)) (x4 : (List Int))
  | j18 (x0 : (List Bool)) (x1 : Bool) (x2 : Int) (x3 : (List S34)) (x4 : (List Int))
noncomputable def td16 : J16 → List Item
  | .j5 _ _ _ => fnd 5 (bodyOf Try.f16) []
  | .j10 _ _ _ _ => fnd 10 (bodyOf Try.f16) []
  | .j17 _ _ _ _ _ => fnd 17 (bodyOf Try.f16) []
  | .j19 _ _ _ _ _ => fnd 19 (bodyOf Try.f16) []
  | .j18 _ _ _ _ _ => fnd 18 (bodyOf Try.f16) []
noncomputable def em16 : J16 → St TT
  | .j5 x0 x1 x2 => ⟨[(1, .ptr 0 0), (3, .own 1), (4, .v (.int .i64 x0))], [(0, .cells 27 [.row 34 x1]), (1, .arr 3 x2)], 2⟩
  | .j10 x0 x1 x2 x3 => ⟨[(1, .ptr 0 0), (3, .own 1), (4, .v (.int .i64 x0)), (5, .v (.int .i64 x1))], [(0, .cells 27 [.row 34 x2]), (1, .arr 3 x3)], 2⟩
  | .j17 x0 x1 x2 x3 x4 => ⟨[(1, .ptr 0 0), (3, .own 1), (6, .row 4 x0), (7, .v (.bool x1)), (8, .v (.int .i64 x2))], [(0, .cells 27 [.row 34 x3]), (1, .arr 3 x4)], 2⟩
  | .j19 x0 x1 x2 x3 x4 => ⟨[(1, .ptr 0 0), (3, .own 1), (6, .row 4 x0), (7, .v (.bool x1)), (8, .v (.int .i64 x2))], [(0, .cells 27 [.row 34 x3]), (1, .arr 3 x4)], 2⟩
  | .j18 x0 x1 x2 x3 x4 => ⟨[(1, .ptr 0 0), (3, .own 1), (6, .row 4 x0), (7, .v (.bool x1)), (8, .v (.int .i64 x2))], [(0, .cells 27 [.row 34 x3]), (1, .arr 3 x4)], 2⟩
noncomputable def step16 (g40 : S34 → Option (Bool)) (g41 : S27 → Option ((List Bool) × Bool)) (go : J16 → Option (Bool)) : J16 → Option (Bool)
  | .j5 x0 x1 x2 => (cond (decide ((x0 : Int) < 10)) (cond (decide ((0 : Int) ≤ x0)) (cond (decide ((x0 : Int) < (((x1).length : Nat) : Int))) (((g40 ((rd34 x1 x0)))).bind fun r0 => (cond (!r0) (some false) (go (.j10 x0 0 x1 x2)))) none) none) (cond (decide ((0 : Int) < (((x1).length : Nat) : Int))) (cond ((((rd34 x1 0)).f0 : Int) != 2) (some false) (((g41 (⟨x1⟩ : S27))).bind fun r1 => (go (.j17 (r1).fst (r1).snd 0 x1 x2)))) none))
  | .j10 x0 x1 x2 x3 => (cond (decide ((0 : Int) ≤ x0)) (cond (decide ((x0 : Int) < (((x2).length : Nat) : Int))) (cond (decide ((x1 : Int) < (((((rd34 x2 x0)).f8).length : Nat) : Int))) (cond (decide ((0 : Int) ≤ x0)) (cond (decide ((x0 : Int) < (((x2).length : Nat) : Int))) (cond (decide ((0 : Int) ≤ x1)) (cond (decide ((x1 : Int) < (((((rd34 x2 x0)).f8).length : Nat) : Int))) (cond (decide ((0 : Int) ≤ x0)) (cond (decide ((x0 : Int) < (((x2).length : Nat) : Int))) (cond (decide ((0 : Int) ≤ x1)) (cond (decide ((x1 : Int) < (((((rd34 x2 x0)).f8).length : Nat) : Int))) (cond (decide ((0 : Int) ≤ ((rd47 ((rd34 x2 x0)).f8 x1)).f1)) (cond (decide ((((rd47 ((rd34 x2 x0)).f8 x1)).f1 : Int) < (((x3).length : Nat) : Int))) (cond (decide ((0 : Int) ≤ ((rd47 ((rd34 x2 x0)).f8 x1)).f1)) (cond (decide ((((rd47 ((rd34 x2 x0)).f8 x1)).f1 : Int) < (((x3).length : Nat) : Int))) (cond (decide ((0 : Int) ≤ ((rd47 ((rd34 x2 x0)).f8 x1)).f1)) (cond (decide ((((rd47 ((rd34 x2 x0)).f8 x1)).f1 : Int) < (((x3).length : Nat) : Int))) (cond (decide ((0 : Int) ≤ ((rd47 ((rd34 x2 x0)).f8 x1)).f1)) (cond (decide ((((rd47 ((rd34 x2 x0)).f8 x1)).f1 : Int) < (((x3).length : Nat) : Int))) (go (.j10 x0 (w64 (x1 + 1)) x2 (List.set x3 (((rd47 ((rd34 x2 x0)).f8 x1)).f1).toNat (w64 ((rd3 x3 ((rd47 ((rd34 x2 x0)).f8 x1)).f1) + 1))))) none) none) none) none) none) none) none) none) none) none) none) none) none) none) none) none) (go (.j5 (w64 (x0 + 1)) x2 x3))) none) none)
  | .j17 x0 x1 x2 x3 x4 => (cond (decide ((x2 : Int) < 10)) (cond x1 (go (.j19 x0 x1 x2 x3 x4)) (some x1)) (some x1))
  | .j19 x0 x1 x2 x3 x4 => (cond (decide ((0 : Int) ≤ x2)) (cond (decide ((x2 : Int) < (((x3).length : Nat) : Int))) (cond (decide ((0 : Int) ≤ x2)) (cond (decide ((x2 : Int) < (((x4).length : Nat) : Int))) (cond (decide ((0 : Int) ≤ x2)) (cond (decide ((x2 : Int) < (((x4).length : Nat) : Int))) (cond (decide (((rd3 x4 x2) : Int) > 0)) (cond ((((rd34 x3 x2)).f0 : Int) == 0) (some false) (cond ((((rd34 x3 x2)).f0 : Int) != 0) (cond (decide ((0 : Int) ≤ x2)) (cond (decide ((x2 : Int) < (((x4).length : Nat) : Int))) (cond (decide ((0 : Int) ≤ x2)) (cond (decide ((x2 : Int) < (((x4).length : Nat) : Int))) (cond ((((rd34 x3 x2)).f4 : Int) != (rd3 x4 x2)) (some false) (cond ((((rd34 x3 x2)).f0 : Int) == 2) (cond (decide ((0 : Int) ≤ x2)) (cond (decide ((x2 : Int) < (((x0).length : Nat) : Int))) (cond (!(rd4 x0 x2)) (some false) (cond ((((rd34 x3 x2)).f0 : Int) == 1) (cond ((((rd34 x3 x2)).f4 : Int) == 0) (cond ((((rd34 x3 x2)).f5 : Int) == 0) (some false) (go (.j18 x0 x1 x2 x3 x4))) (go (.j18 x0 x1 x2 x3 x4))) (go (.j18 x0 x1 x2 x3 x4)))) none) none) (cond ((((rd34 x3 x2)).f0 : Int) == 1) (cond ((((rd34 x3 x2)).f4 : Int) == 0) (cond ((((rd34 x3 x2)).f5 : Int) == 0) (some false) (go (.j18 x0 x1 x2 x3 x4))) (go (.j18 x0 x1 x2 x3 x4))) (go (.j18 x0 x1 x2 x3 x4))))) none) none) none) none) (cond ((((rd34 x3 x2)).f0 : Int) == 2) (cond (decide ((0 : Int) ≤ x2)) (cond (decide ((x2 : Int) < (((x0).length : Nat) : Int))) (cond (!(rd4 x0 x2)) (some false) (cond ((((rd34 x3 x2)).f0 : Int) == 1) (cond ((((rd34 x3 x2)).f4 : Int) == 0) (cond ((((rd34 x3 x2)).f5 : Int) == 0) (some false) (go (.j18 x0 x1 x2 x3 x4))) (go (.j18 x0 x1 x2 x3 x4))) (go (.j18 x0 x1 x2 x3 x4)))) none) none) (cond ((((rd34 x3 x2)).f0 : Int) == 1) (cond ((((rd34 x3 x2)).f4 : Int) == 0) (cond ((((rd34 x3 x2)).f5 : Int) == 0) (some false) (go (.j18 x0 x1 x2 x3 x4))) (go (.j18 x0 x1 x2 x3 x4))) (go (.j18 x0 x1 x2 x3 x4)))))) (cond ((((rd34 x3 x2)).f0 : Int) != 0) (cond (decide ((0 : Int) ≤ x2)) (cond (decide ((x2 : Int) < (((x4).length : Nat) : Int))) (cond (decide ((0 : Int) ≤ x2)) (cond (decide ((x2 : Int) < (((x4).length : Nat) : Int))) (cond ((((rd34 x3 x2)).f4 : Int) != (rd3 x4 x2)) (some false) (cond ((((rd34 x3 x2)).f0 : Int) == 2) (cond (decide ((0 : Int) ≤ x2)) (cond (decide ((x2 : Int) < (((x0).length : Nat) : Int))) (cond (!(rd4 x0 x2)) (some false) (cond ((((rd34 x3 x2)).f0 : Int) == 1) (cond ((((rd34 x3 x2)).f4 : Int) == 0) (cond ((((rd34 x3 x2)).f5 : Int) == 0) (some false) (go (.j18 x0 x1 x2 x3 x4))) (go (.j18 x0 x1 x2 x3 x4))) (go (.j18 x0 x1 x2 x3 x4)))) none) none) (cond ((((rd34 x3 x2)).f0 : Int) == 1) (cond ((((rd34 x3 x2)).f4 : Int) == 0) (cond ((((rd34 x3 x2)).f5 : Int) == 0) (some false) (go (.j18 x0 x1 x2 x3 x4))) (go (.j18 x0 x1 x2 x3 x4))) (go (.j18 x0 x1 x2 x3 x4))))) none) none) none) none) (cond ((((rd34 x3 x2)).f0 : Int) == 2) (cond (decide ((0 : Int) ≤ x2)) (cond (decide ((x2 : Int) < (((x0).length : Nat) : Int))) (cond (!(rd4 x0 x2)) (some false) (cond ((((rd34 x3 x2)).f0 : Int) == 1) (cond ((((rd34 x3 x2)).f4 : Int) == 0) (cond ((((rd34 x3 x2)).f5 : Int) == 0) (some false) (go (.j18 x0 x1 x2 x3 x4))) (go (.j18 x0 x1 x2 x3 x4))) (go (.j18 x0 x1 x2 x3 x4)))) none) none) (cond ((((rd34 x3 x2)).f0 : Int) == 1) (cond ((((rd34 x3 x2)).f4 : Int) == 0) (cond ((((rd34 x3 x2)).f5 : Int) == 0) (some false) (go (.j18 x0 x1 x2 x3 x4))) (go (.j18 x0 x1 x2 x3 x4))) (go (.j18 x0 x1 x2 x3 x4)))))) none) none) none) none) none) none)
  | .j18 x0 x1 x2 x3 x4 => (go (.j17 x0 x1 (w64 (x2 + 1)) x3 x4))
noncomputable def start16 (g40 : S34 → Option (Bool)) (g41 : S27 → Option ((List Bool) × Bool)) (go : J16 → Option (Bool)) : S27 → Option (Bool)
  | x0 => (cond ((((((x0).f0).length : Nat) : Int) : Int) != 10) (some false) (go (.j5 0 (x0).f0 (List.replicate 10 0))))
noncomputable def f16 (k : Nat) : S27 → Option (Bool) := start16 (f40 k) (f41 k) (run (step16 (f40 k) (f41 k)) k)
theorem st16 (g40 : S34 → Option (Bool)) (g41 : S27 → Option ((List Bool) × Bool)) (G : List Item → St TT → Option (Bool)) (p : J16) : evFrom (F16 g40 g41) G 3000 (td16 p) (em16 p) = step16 g40 g41 (fun q => G (td16 q) (em16 q)) p := by
  cases p <;> kernel_rfl
theorem en16 (g40 : S34 → Option (Bool)) (g41 : S27 → Option ((List Bool) × Bool)) (G : List Item → St TT → Option (Bool)) (a : S27) : ev (F16 g40 g41) G 3000 [.code (bodyOf Try.f16)] (st0 ((Dl.one (Dc.agg uu 27)).en a)) = start16 g40 g41 (fun q => G (td16 q) (em16 q)) a := by
  kernel_rfl
theorem snd16 (k : Nat) : Snd Try.prog UU 16 (W (Dl.one (Dc.agg uu 27)) (f16 k) (Dc.bool UU)) := by
  refine snd_fn (F := F16 (f40 k) (f41 k)) (fn := Try.f16) (body := bodyOf Try.f16) ⟨uu, tbl_ok ⟨snd40 k, snd41 k, trivial⟩, mixed⟩ (by kernel_rfl) (by kernel_rfl) (by kernel_rfl) rfl rfl rfl (fun a => Nat.le_of_ble_eq_true rfl) ?_
  intro a r h
  refine ⟨3000, k, ?_⟩
  rw [en16, show (fun q => evJ (F16 (f40 k) (f41 k)) 3000 k (td16 q) (em16 q)) = run (step16 (f40 k) (f41 k)) k from funext fun q => evJ_run _ _ _ (st16 (f40 k) (f41 k)) k q]
  exact h
noncomputable def F44 (g35 : Int × Int × Int → Option (Bool)) : Fn TT (Bool) := ⟨Try.prog, UU, tbl [(35, W (Dl.cons (Dc.int UU .i64) (Dl.cons (Dc.int UU .i64) (Dl.one (Dc.int UU .i64)))) g35 (Dc.bool UU))], Try.f44.ntmps, Try.f44.results.toList, [4], true, annOf [], finD (Dc.bool UU)⟩
noncomputable def start44 (g35 : Int × Int × Int → Option (Bool)) : S27 × Int → Option (Bool)
  | (x0, x1) => (((g35 (x1, (0, (w64 (((((x0).f0).length : Nat) : Int) - 1)))))).bind fun r0 => (cond r0 (cond (decide ((0 : Int) ≤ x1)) (cond (decide ((x1 : Int) < ((((x0).f0).length : Nat) : Int))) (some ((((rd34 (x0).f0 x1)).f0 : Int) != 0)) none) none) (some false)))
noncomputable def f44 (k : Nat) : S27 × Int → Option (Bool) := start44 (f35 k)
theorem en44 (g35 : Int × Int × Int → Option (Bool)) (G : List Item → St TT → Option (Bool)) (a : S27 × Int) : ev (F44 g35) G 3000 [.code (bodyOf Try.f44)] (st0 ((Dl.cons (Dc.agg uu 27) (Dl.one (Dc.int UU .i64))).en a)) = start44 g35 a := by
  obtain ⟨x0, x1⟩ := a
  kernel_rfl
theorem snd44 (k : Nat) : Snd Try.prog UU 44 (W (Dl.cons (Dc.agg uu 27) (Dl.one (Dc.int UU .i64))) (f44 k) (Dc.bool UU)) := by
  refine snd_fn (F := F44 (f35 k)) (fn := Try.f44) (body := bodyOf Try.f44) ⟨uu, tbl_ok ⟨snd35 k, trivial⟩, mixed⟩ (by kernel_rfl) (by kernel_rfl) (by kernel_rfl) rfl rfl rfl (fun a => Nat.le_of_ble_eq_true rfl) ?_
  intro a r h
  refine ⟨3000, k, ?_⟩
  rw [en44]
  exact h
noncomputable def F50 (g34 : Int → Option (Bool)) : Fn TT (Bool) := ⟨Try.prog, UU, tbl [(34, W (Dl.one (Dc.int UU .i64)) g34 (Dc.bool UU))], Try.f50.ntmps, Try.f50.results.toList, [4], true, annOf [(2, [1, 3]), (3, [1, 3])], finD (Dc.bool UU)⟩
inductive J50 where
  | j2 (x0 : Int) (x1 : Int) (x2 : Int) (x3 : (List Int))
  | j3 (x0 : Int) (x1 : Int) (x2 : Int) (x3 : (List Int))
noncomputable def td50 : J50 → List Item
  | .j2 _ _ _ _ => fnd 2 (bodyOf Try.f50) []
  | .j3 _ _ _ _ => fnd 3 (bodyOf Try.f50) []
noncomputable def em50 : J50 → St TT
  | .j2 x0 x1 x2 x3 => ⟨[(1, .ptr 0 0), (3, .v (.int .i64 x0))], [(0, .cells 55 [.v (.int .i64 x1), .v (.int .i64 x2), .row 3 x3])], 1⟩
  | .j3 x0 x1 x2 x3 => ⟨[(1, .ptr 0 0), (3, .v (.int .i64 x0))], [(0, .cells 55 [.v (.int .i64 x1), .v (.int .i64 x2), .row 3 x3])], 1⟩
noncomputable def step50 (g34 : Int → Option (Bool)) (go : J50 → Option (Bool)) : J50 → Option (Bool)
  | .j2 x0 x1 x2 x3 => (cond (decide ((x0 : Int) < (((x3).length : Nat) : Int))) (cond (decide ((0 : Int) ≤ x0)) (cond (decide ((x0 : Int) < (((x3).length : Nat) : Int))) (((g34 (rd3 x3 x0))).bind fun r0 => (cond (!r0) (some false) (cond (decide ((x0 : Int) > 0)) (cond (decide ((0 : Int) ≤ (w64 (x0 - 1)))) (cond (decide (((w64 (x0 - 1)) : Int) < (((x3).length : Nat) : Int))) (cond (decide ((0 : Int) ≤ x0)) (cond (decide ((x0 : Int) < (((x3).length : Nat) : Int))) (cond (decide (((rd3 x3 (w64 (x0 - 1))) : Int) ≥ (rd3 x3 x0))) (some false) (go (.j3 x0 x1 x2 x3))) none) none) none) none) (go (.j3 x0 x1 x2 x3))))) none) none) (((g34 x1)).bind fun r1 => (cond r1 (((g34 x2)).bind fun r2 => (cond r2 (some (decide (((((x3).length : Nat) : Int) : Int) ≤ 3))) (some false))) (some false))))
  | .j3 x0 x1 x2 x3 => (go (.j2 (w64 (x0 + 1)) x1 x2 x3))
noncomputable def start50 (g34 : Int → Option (Bool)) (go : J50 → Option (Bool)) : S52 → Option (Bool)
  | x0 => (go (.j2 0 (x0).f0 (x0).f1 (x0).f2))
noncomputable def f50 (k : Nat) : S52 → Option (Bool) := start50 (f34 k) (run (step50 (f34 k)) k)
theorem st50 (g34 : Int → Option (Bool)) (G : List Item → St TT → Option (Bool)) (p : J50) : evFrom (F50 g34) G 3000 (td50 p) (em50 p) = step50 g34 (fun q => G (td50 q) (em50 q)) p := by
  cases p <;> kernel_rfl
theorem en50 (g34 : Int → Option (Bool)) (G : List Item → St TT → Option (Bool)) (a : S52) : ev (F50 g34) G 3000 [.code (bodyOf Try.f50)] (st0 ((Dl.one (Dc.agg uu 55)).en a)) = start50 g34 (fun q => G (td50 q) (em50 q)) a := by
  kernel_rfl
theorem snd50 (k : Nat) : Snd Try.prog UU 50 (W (Dl.one (Dc.agg uu 55)) (f50 k) (Dc.bool UU)) := by
  refine snd_fn (F := F50 (f34 k)) (fn := Try.f50) (body := bodyOf Try.f50) ⟨uu, tbl_ok ⟨snd34 k, trivial⟩, mixed⟩ (by kernel_rfl) (by kernel_rfl) (by kernel_rfl) rfl rfl rfl (fun a => Nat.le_of_ble_eq_true rfl) ?_
  intro a r h
  refine ⟨3000, k, ?_⟩
  rw [en50, show (fun q => evJ (F50 (f34 k)) 3000 k (td50 q) (em50 q)) = run (step50 (f34 k)) k from funext fun q => evJ_run _ _ _ (st50 (f34 k)) k q]
  exact h
noncomputable def F99 : Fn TT (Bool) := ⟨Try.prog, UU, tbl [], Try.f99.ntmps, Try.f99.results.toList, [4], true, annOf [(2, [0, 1, 5])], finD (Dc.bool UU)⟩
inductive J99 where
  | j2 (x0 : (List Int)) (x1 : Int) (x2 : Int)
noncomputable def td99 : J99 → List Item
  | .j2 _ _ _ => fnd 2 (bodyOf Try.f99) []
noncomputable def em99 : J99 → St TT
  | .j2 x0 x1 x2 => ⟨[(0, .row 3 x0), (1, .v (.int .i64 x1)), (5, .v (.int .i64 x2))], [], 0⟩
noncomputable def step99 (go : J99 → Option (Bool)) : J99 → Option (Bool)
  | .j2 x0 x1 x2 => (cond (decide ((x2 : Int) < (((x0).length : Nat) : Int))) (cond (decide ((0 : Int) ≤ x2)) (cond (decide ((x2 : Int) < (((x0).length : Nat) : Int))) (cond (((rd3 x0 x2) : Int) == x1) (some true) (go (.j2 x0 x1 (w64 (x2 + 1))))) none) none) (some false))
noncomputable def start99 (go : J99 → Option (Bool)) : (List Int) × Int → Option (Bool)
  | (x0, x1) => (go (.j2 x0 x1 0))
noncomputable def f99 (k : Nat) : (List Int) × Int → Option (Bool) := start99 (run (step99) k)
theorem st99 (G : List Item → St TT → Option (Bool)) (p : J99) : evFrom (F99) G 3000 (td99 p) (em99 p) = step99 (fun q => G (td99 q) (em99 q)) p := by
  cases p <;> kernel_rfl
theorem en99 (G : List Item → St TT → Option (Bool)) (a : (List Int) × Int) : ev (F99) G 3000 [.code (bodyOf Try.f99)] (st0 ((Dl.cons (Dc.row UU 3) (Dl.one (Dc.int UU .i64))).en a)) = start99 (fun q => G (td99 q) (em99 q)) a := by
  obtain ⟨x0, x1⟩ := a
  kernel_rfl
theorem snd99 (k : Nat) : Snd Try.prog UU 99 (W (Dl.cons (Dc.row UU 3) (Dl.one (Dc.int UU .i64))) (f99 k) (Dc.bool UU)) := by
  refine snd_fn (F := F99) (fn := Try.f99) (body := bodyOf Try.f99) ⟨uu, tbl_ok trivial, mixed⟩ (by kernel_rfl) (by kernel_rfl) (by kernel_rfl) rfl rfl rfl (fun a => Nat.le_of_ble_eq_true rfl) ?_
  intro a r h
  refine ⟨3000, k, ?_⟩
  rw [en99, show (fun q => evJ (F99) 3000 k (td99 q) (em99 q)) = run (step99) k from funext fun q => evJ_run _ _ _ (st99) k q]
  exact h
noncomputable def F97 (g99 : (List Int) × Int → Option (Bool)) : Fn TT (Bool) := ⟨Try.prog, UU, tbl [(99, W (Dl.cons (Dc.row UU 3) (Dl.one (Dc.int UU .i64))) g99 (Dc.bool UU))], Try.f97.ntmps, Try.f97.results.toList, [4], true, annOf [], finD (Dc.bool UU)⟩
noncomputable def start97 (g99 : (List Int) × Int → Option (Bool)) : S52 × Int × Int × Int × Int → Option (Bool)
  | (x0, x1, x2, x3, x4) => (cond (((x0).f0 : Int) == 0) (cond (decide (((w64 ((w64 ((Int.tmod x3 2) + (Int.tmod (w64 (Int.tdiv x3 8)) 2))) + (Int.tmod (w64 (Int.tdiv x3 64)) 2))) : Int) > 0)) (some (((and_ Go.IntKind.i64 7 x4) : Int) == x4)) (some (((and_ Go.IntKind.i64 6 x4) : Int) == x4))) (cond (((x0).f0 : Int) == x1) (some (((and_ Go.IntKind.i64 (w64 (Int.tdiv x3 64)) x4) : Int) == x4)) (((g99 ((x0).f2, x2))).bind fun r0 => (cond r0 (some (((and_ Go.IntKind.i64 (Int.tmod (w64 (Int.tdiv x3 8)) 8) x4) : Int) == x4)) (some (((and_ Go.IntKind.i64 (Int.tmod x3 8) x4) : Int) == x4))))))
noncomputable def f97 (k : Nat) : S52 × Int × Int × Int × Int → Option (Bool) := start97 (f99 k)
theorem en97 (g99 : (List Int) × Int → Option (Bool)) (G : List Item → St TT → Option (Bool)) (a : S52 × Int × Int × Int × Int) : ev (F97 g99) G 3000 [.code (bodyOf Try.f97)] (st0 ((Dl.cons (Dc.agg uu 55) (Dl.cons (Dc.int UU .i64) (Dl.cons (Dc.int UU .i64) (Dl.cons (Dc.int UU .i64) (Dl.one (Dc.int UU .i64)))))).en a)) = start97 g99 a := by
  obtain ⟨x0, x1, x2, x3, x4⟩ := a
  kernel_rfl
theorem snd97 (k : Nat) : Snd Try.prog UU 97 (W (Dl.cons (Dc.agg uu 55) (Dl.cons (Dc.int UU .i64) (Dl.cons (Dc.int UU .i64) (Dl.cons (Dc.int UU .i64) (Dl.one (Dc.int UU .i64)))))) (f97 k) (Dc.bool UU)) := by
  refine snd_fn (F := F97 (f99 k)) (fn := Try.f97) (body := bodyOf Try.f97) ⟨uu, tbl_ok ⟨snd99 k, trivial⟩, mixed⟩ (by kernel_rfl) (by kernel_rfl) (by kernel_rfl) rfl rfl rfl (fun a => Nat.le_of_ble_eq_true rfl) ?_
  intro a r h
  refine ⟨3000, k, ?_⟩
  rw [en97]
  exact h
noncomputable def F88 (g97 : S52 × Int × Int × Int × Int → Option (Bool)) : Fn TT (Bool) := ⟨Try.prog, UU, tbl [(97, W (Dl.cons (Dc.agg uu 55) (Dl.cons (Dc.int UU .i64) (Dl.cons (Dc.int UU .i64) (Dl.cons (Dc.int UU .i64) (Dl.one (Dc.int UU .i64)))))) g97 (Dc.bool UU))], Try.f88.ntmps, Try.f88.results.toList, [4], true, annOf [], finD (Dc.bool UU)⟩
noncomputable def start88 (g97 : S52 × Int × Int × Int × Int → Option (Bool)) : S27 × S52 × Int × Int → Option (Bool)
  | (x0, x1, x2, x3) => (cond (decide ((0 : Int) ≤ x2)) (cond (decide ((x2 : Int) < ((((x0).f0).length : Nat) : Int))) (((g97 ((x1), (((rd34 (x0).f0 x2)).f2, (((rd34 (x0).f0 x2)).f3, (((rd34 (x0).f0 x2)).f1, x3)))))).bind fun r0 => (some r0)) none) none)
noncomputable def f88 (k : Nat) : S27 × S52 × Int × Int → Option (Bool) := start88 (f97 k)
theorem en88 (g97 : S52 × Int × Int × Int × Int → Option (Bool)) (G : List Item → St TT → Option (Bool)) (a : S27 × S52 × Int × Int) : ev (F88 g97) G 3000 [.code (bodyOf Try.f88)] (st0 ((Dl.cons (Dc.agg uu 27) (Dl.cons (Dc.agg uu 55) (Dl.cons (Dc.int UU .i64) (Dl.one (Dc.int UU .i64))))).en a)) = start88 g97 a := by
  obtain ⟨x0, x1, x2, x3⟩ := a
  kernel_rfl
theorem snd88 (k : Nat) : Snd Try.prog UU 88 (W (Dl.cons (Dc.agg uu 27) (Dl.cons (Dc.agg uu 55) (Dl.cons (Dc.int UU .i64) (Dl.one (Dc.int UU .i64))))) (f88 k) (Dc.bool UU)) := by
  refine snd_fn (F := F88 (f97 k)) (fn := Try.f88) (body := bodyOf Try.f88) ⟨uu, tbl_ok ⟨snd97 k, trivial⟩, mixed⟩ (by kernel_rfl) (by kernel_rfl) (by kernel_rfl) rfl rfl rfl (fun a => Nat.le_of_ble_eq_true rfl) ?_
  intro a r h
  refine ⟨3000, k, ?_⟩
  rw [en88]
  exact h
noncomputable def F70 (g88 : S27 × S52 × Int × Int → Option (Bool)) : Fn TT (Int) := ⟨Try.prog, UU, tbl [(88, W (Dl.cons (Dc.agg uu 27) (Dl.cons (Dc.agg uu 55) (Dl.cons (Dc.int UU .i64) (Dl.one (Dc.int UU .i64))))) g88 (Dc.bool UU))], Try.f70.ntmps, Try.f70.results.toList, [3], true, annOf [], finD (Dc.int UU .i64)⟩
noncomputable def start70 (g88 : S27 × S52 × Int × Int → Option (Bool)) : S27 × S52 × Int × Int → Option (Int)
  | (x0, x1, x2, x3) => (cond (decide ((0 : Int) ≤ x2)) (cond (decide ((x2 : Int) < ((((x0).f0).length : Nat) : Int))) (cond ((((rd34 (x0).f0 x2)).f0 : Int) != 2) (some 4) (((g88 ((x0), ((x1), (x2, x3))))).bind fun r0 => (cond (!r0) (some 5) (some 0)))) none) none)
noncomputable def f70 (k : Nat) : S27 × S52 × Int × Int → Option (Int) := start70 (f88 k)
theorem en70 (g88 : S27 × S52 × Int × Int → Option (Bool)) (G : List Item → St TT → Option (Int)) (a : S27 × S52 × Int × Int) : ev (F70 g88) G 3000 [.code (bodyOf Try.f70)] (st0 ((Dl.cons (Dc.agg uu 27) (Dl.cons (Dc.agg uu 55) (Dl.cons (Dc.int UU .i64) (Dl.one (Dc.int UU .i64))))).en a)) = start70 g88 a := by
  obtain ⟨x0, x1, x2, x3⟩ := a
  kernel_rfl
theorem snd70 (k : Nat) : Snd Try.prog UU 70 (W (Dl.cons (Dc.agg uu 27) (Dl.cons (Dc.agg uu 55) (Dl.cons (Dc.int UU .i64) (Dl.one (Dc.int UU .i64))))) (f70 k) (Dc.int UU .i64)) := by
  refine snd_fn (F := F70 (f88 k)) (fn := Try.f70) (body := bodyOf Try.f70) ⟨uu, tbl_ok ⟨snd88 k, trivial⟩, mixed⟩ (by kernel_rfl) (by kernel_rfl) (by kernel_rfl) rfl rfl rfl (fun a => Nat.le_of_ble_eq_true rfl) ?_
  intro a r h
  refine ⟨3000, k, ?_⟩
  rw [en70]
  exact h
noncomputable def F71 : Fn TT (Int) := ⟨Try.prog, UU, tbl [], Try.f71.ntmps, Try.f71.results.toList, [3], true, annOf [(2, [1, 2, 5])], finD (Dc.int UU .i64)⟩
inductive J71 where
  | j2 (x0 : ByteArray) (x1 : Int) (x2 : Int) (x3 : Int) (x4 : Int) (x5 : Int) (x6 : Int) (x7 : Int) (x8 : Bool) (x9 : ByteArray) (x10 : (List S47))
noncomputable def td71 : J71 → List Item
  | .j2 _ _ _ _ _ _ _ _ _ _ _ => fnd 2 (bodyOf Try.f71) []
noncomputable def em71 : J71 → St TT
  | .j2 x0 x1 x2 x3 x4 x5 x6 x7 x8 x9 x10 => ⟨[(1, .v (.string x0)), (2, .ptr 0 0), (5, .v (.int .i64 x1))], [(0, .cells 34 [.v (.int .i64 x2), .v (.int .i64 x3), .v (.int .i64 x4), .v (.int .i64 x5), .v (.int .i64 x6), .v (.int .i64 x7), .v (.bool x8), .v (.string x9), .row 47 x10])], 1⟩
noncomputable def step71 (go : J71 → Option (Int)) : J71 → Option (Int)
  | .j2 x0 x1 x2 x3 x4 x5 x6 x7 x8 x9 x10 => (cond (decide ((x1 : Int) < (((x10).length : Nat) : Int))) (cond (decide ((0 : Int) ≤ x1)) (cond (decide ((x1 : Int) < (((x10).length : Nat) : Int))) (cond ((((rd47 x10 x1)).f0).toList == (x0).toList) (some x1) (go (.j2 x0 (w64 (x1 + 1)) x2 x3 x4 x5 x6 x7 x8 x9 x10))) none) none) (some (-1)))
noncomputable def start71 (go : J71 → Option (Int)) : S34 × ByteArray → Option (Int)
  | (x0, x1) => (go (.j2 x1 0 (x0).f0 (x0).f1 (x0).f2 (x0).f3 (x0).f4 (x0).f5 (x0).f6 (x0).f7 (x0).f8))
noncomputable def f71 (k : Nat) : S34 × ByteArray → Option (Int) := start71 (run (step71) k)
theorem st71 (G : List Item → St TT → Option (Int)) (p : J71) : evFrom (F71) G 3000 (td71 p) (em71 p) = step71 (fun q => G (td71 q) (em71 q)) p := by
  cases p <;> kernel_rfl
theorem en71 (G : List Item → St TT → Option (Int)) (a : S34 × ByteArray) : ev (F71) G 3000 [.code (bodyOf Try.f71)] (st0 ((Dl.cons (Dc.agg uu 34) (Dl.one (Dc.str UU))).en a)) = start71 (fun q => G (td71 q) (em71 q)) a := by
  obtain ⟨x0, x1⟩ := a
  kernel_rfl
theorem snd71 (k : Nat) : Snd Try.prog UU 71 (W (Dl.cons (Dc.agg uu 34) (Dl.one (Dc.str UU))) (f71 k) (Dc.int UU .i64)) := by
  refine snd_fn (F := F71) (fn := Try.f71) (body := bodyOf Try.f71) ⟨uu, tbl_ok trivial, mixed⟩ (by kernel_rfl) (by kernel_rfl) (by kernel_rfl) rfl rfl rfl (fun a => Nat.le_of_ble_eq_true rfl) ?_
  intro a r h
  refine ⟨3000, k, ?_⟩
  rw [en71, show (fun q => evJ (F71) 3000 k (td71 q) (em71 q)) = run (step71) k from funext fun q => evJ_run _ _ _ (st71) k q]
  exact h
noncomputable def F52 (g70 : S27 × S52 × Int × Int → Option (Int)) (g71 : S34 × ByteArray → Option (Int)) : Fn TT (Int × Int) := ⟨Try.prog, UU, tbl [(70, W (Dl.cons (Dc.agg uu 27) (Dl.cons (Dc.agg uu 55) (Dl.cons (Dc.int UU .i64) (Dl.one (Dc.int UU .i64))))) g70 (Dc.int UU .i64)), (71, W (Dl.cons (Dc.agg uu 34) (Dl.one (Dc.str UU))) g71 (Dc.int UU .i64))], Try.f52.ntmps, Try.f52.results.toList, [3, 3], true, annOf [], finD (Dc.tup (Dl.cons (Dc.int UU .i64) (Dl.one (Dc.int UU .i64))))⟩
noncomputable def start52 (g70 : S27 × S52 × Int × Int → Option (Int)) (g71 : S34 × ByteArray → Option (Int)) : S27 × S52 × Int × ByteArray → Option (Int × Int)
  | (x0, x1, x2, x3) => (((g70 ((x0), ((x1), (x2, 1))))).bind fun r0 => (cond ((r0 : Int) != 0) (some ((-1), r0)) (cond (decide ((0 : Int) ≤ x2)) (cond (decide ((x2 : Int) < ((((x0).f0).length : Nat) : Int))) (((g71 (((rd34 (x0).f0 x2)), x3))).bind fun r1 => (cond (decide ((r1 : Int) < 0)) (some ((-1), 2)) (cond (decide ((0 : Int) ≤ x2)) (cond (decide ((x2 : Int) < ((((x0).f0).length : Nat) : Int))) (cond (decide ((0 : Int) ≤ r1)) (cond (decide ((r1 : Int) < (((((rd34 (x0).f0 x2)).f8).length : Nat) : Int))) (some (((rd47 ((rd34 (x0).f0 x2)).f8 r1)).f1, 0)) none) none) none) none))) none) none)))
noncomputable def f52 (k : Nat) : S27 × S52 × Int × ByteArray → Option (Int × Int) := start52 (f70 k) (f71 k)
theorem en52 (g70 : S27 × S52 × Int × Int → Option (Int)) (g71 : S34 × ByteArray → Option (Int)) (G : List Item → St TT → Option (Int × Int)) (a : S27 × S52 × Int × ByteArray) : ev (F52 g70 g71) G 3000 [.code (bodyOf Try.f52)] (st0 ((Dl.cons (Dc.agg uu 27) (Dl.cons (Dc.agg uu 55) (Dl.cons (Dc.int UU .i64) (Dl.one (Dc.str UU))))).en a)) = start52 g70 g71 a := by
  obtain ⟨x0, x1, x2, x3⟩ := a
  kernel_rfl
theorem snd52 (k : Nat) : Snd Try.prog UU 52 (W (Dl.cons (Dc.agg uu 27) (Dl.cons (Dc.agg uu 55) (Dl.cons (Dc.int UU .i64) (Dl.one (Dc.str UU))))) (f52 k) (Dc.tup (Dl.cons (Dc.int UU .i64) (Dl.one (Dc.int UU .i64))))) := by
  refine snd_fn (F := F52 (f70 k) (f71 k)) (fn := Try.f52) (body := bodyOf Try.f52) ⟨uu, tbl_ok ⟨snd70 k, snd71 k, trivial⟩, mixed⟩ (by kernel_rfl) (by kernel_rfl) (by kernel_rfl) rfl rfl rfl (fun a => Nat.le_of_ble_eq_true rfl) ?_
  intro a r h
  refine ⟨3000, k, ?_⟩
  rw [en52]
  exact h
noncomputable def F24 (g16 : S27 → Option (Bool)) (g44 : S27 × Int → Option (Bool)) (g50 : S52 → Option (Bool)) (g51 : ByteArray → Option (Bool)) (g52 : S27 × S52 × Int × ByteArray → Option (Int × Int)) : Fn TT (Int × Int) := ⟨Try.prog, UU, tbl [(16, W (Dl.one (Dc.agg uu 27)) g16 (Dc.bool UU)), (44, W (Dl.cons (Dc.agg uu 27) (Dl.one (Dc.int UU .i64))) g44 (Dc.bool UU)), (50, W (Dl.one (Dc.agg uu 55)) g50 (Dc.bool UU)), (51, W (Dl.one (Dc.str UU)) g51 (Dc.bool UU)), (52, W (Dl.cons (Dc.agg uu 27) (Dl.cons (Dc.agg uu 55) (Dl.cons (Dc.int UU .i64) (Dl.one (Dc.str UU))))) g52 (Dc.tup (Dl.cons (Dc.int UU .i64) (Dl.one (Dc.int UU .i64)))))], Try.f24.ntmps, Try.f24.results.toList, [3, 3], true, annOf [], finD (Dc.tup (Dl.cons (Dc.int UU .i64) (Dl.one (Dc.int UU .i64))))⟩
noncomputable def start24 (g16 : S27 → Option (Bool)) (g44 : S27 × Int → Option (Bool)) (g50 : S52 → Option (Bool)) (g51 : ByteArray → Option (Bool)) (g52 : S27 × S52 × Int × ByteArray → Option (Int × Int)) : S27 × S52 × Int × ByteArray → Option (Int × Int)
  | (x0, x1, x2, x3) => (((g16 (x0))).bind fun r0 => (cond (!r0) (some ((-1), 1)) (((g50 (x1))).bind fun r1 => (cond (!r1) (some ((-1), 1)) (((g44 ((x0), x2))).bind fun r2 => (cond (!r2) (some ((-1), 1)) (((g51 x3)).bind fun r3 => (cond (!r3) (some ((-1), 1)) (((g52 ((x0), ((x1), (x2, x3))))).bind fun r4 => (some ((r4).fst, (r4).snd)))))))))))
noncomputable def f24 (k : Nat) : S27 × S52 × Int × ByteArray → Option (Int × Int) := start24 (f16 k) (f44 k) (f50 k) (f51 k) (f52 k)
theorem en24 (g16 : S27 → Option (Bool)) (g44 : S27 × Int → Option (Bool)) (g50 : S52 → Option (Bool)) (g51 : ByteArray → Option (Bool)) (g52 : S27 × S52 × Int × ByteArray → Option (Int × Int)) (G : List Item → St TT → Option (Int × Int)) (a : S27 × S52 × Int × ByteArray) : ev (F24 g16 g44 g50 g51 g52) G 3000 [.code (bodyOf Try.f24)] (st0 ((Dl.cons (Dc.agg uu 27) (Dl.cons (Dc.agg uu 55) (Dl.cons (Dc.int UU .i64) (Dl.one (Dc.str UU))))).en a)) = start24 g16 g44 g50 g51 g52 a := by
  obtain ⟨x0, x1, x2, x3⟩ := a
  kernel_rfl
theorem snd24 (k : Nat) : Snd Try.prog UU 24 (W (Dl.cons (Dc.agg uu 27) (Dl.cons (Dc.agg uu 55) (Dl.cons (Dc.int UU .i64) (Dl.one (Dc.str UU))))) (f24 k) (Dc.tup (Dl.cons (Dc.int UU .i64) (Dl.one (Dc.int UU .i64))))) := by
  refine snd_fn (F := F24 (f16 k) (f44 k) (f50 k) (f51 k) (f52 k)) (fn := Try.f24) (body := bodyOf Try.f24) ⟨uu, tbl_ok ⟨snd16 k, snd44 k, snd50 k, snd51 k, snd52 k, trivial⟩, mixed⟩ (by kernel_rfl) (by kernel_rfl) (by kernel_rfl) rfl rfl rfl (fun a => Nat.le_of_ble_eq_true rfl) ?_
  intro a r h
  refine ⟨3000, k, ?_⟩
  rw [en24]
  exact h
noncomputable def F53 : Fn TT ((List Int)) := ⟨Try.prog, UU, tbl [], Try.f53.ntmps, Try.f53.results.toList, [50], true, annOf [(3, [0, 3, 4])], finD (Dc.row UU 3)⟩
inductive J53 where
  | j3 (x0 : (List Int)) (x1 : Int) (x2 : (List Int))
noncomputable def td53 : J53 → List Item
  | .j3 _ _ _ => fnd 3 (bodyOf Try.f53) []
noncomputable def em53 : J53 → St TT
  | .j3 x0 x1 x2 => ⟨[(0, .row 3 x0), (3, .own 0), (4, .v (.int .i64 x1))], [(0, .arr 3 x2)], 1⟩
noncomputable def step53 (go : J53 → Option ((List Int))) : J53 → Option ((List Int))
  | .j3 x0 x1 x2 => (cond (decide ((x1 : Int) < (((x0).length : Nat) : Int))) (cond (decide ((0 : Int) ≤ x1)) (cond (decide ((x1 : Int) < (((x0).length : Nat) : Int))) (cond (decide ((0 : Int) ≤ x1)) (cond (decide ((x1 : Int) < (((x2).length : Nat) : Int))) (cond (decide ((0 : Int) ≤ x1)) (cond (decide ((x1 : Int) < (((x2).length : Nat) : Int))) (go (.j3 x0 (w64 (x1 + 1)) (List.set x2 (x1).toNat (rd3 x0 x1)))) none) none) none) none) none) none) (some x2))
noncomputable def start53 (go : J53 → Option ((List Int))) : (List Int) → Option ((List Int))
  | x0 => (cond (decide (((8 * (((x0).length : Nat) : Int)) : Int) ≤ 140737488355328)) (cond (decide (((((x0).length : Nat) : Int) : Int) ≤ 140737488355328)) (go (.j3 x0 0 (List.replicate ((((x0).length : Nat) : Int)).toNat 0))) none) none)
noncomputable def f53 (k : Nat) : (List Int) → Option ((List Int)) := start53 (run (step53) k)
theorem st53 (G : List Item → St TT → Option ((List Int))) (p : J53) : evFrom (F53) G 3000 (td53 p) (em53 p) = step53 (fun q => G (td53 q) (em53 q)) p := by
  cases p <;> kernel_rfl
theorem en53 (G : List Item → St TT → Option ((List Int))) (a : (List Int)) : ev (F53) G 3000 [.code (bodyOf Try.f53)] (st0 ((Dl.one (Dc.row UU 3)).en a)) = start53 (fun q => G (td53 q) (em53 q)) a := by
  kernel_rfl
theorem snd53 (k : Nat) : Snd Try.prog UU 53 (W (Dl.one (Dc.row UU 3)) (f53 k) (Dc.row UU 3)) := by
  refine snd_fn (F := F53) (fn := Try.f53) (body := bodyOf Try.f53) ⟨uu, tbl_ok trivial, mixed⟩ (by kernel_rfl) (by kernel_rfl) (by kernel_rfl) rfl rfl rfl (fun a => Nat.le_of_ble_eq_true rfl) ?_
  intro a r h
  refine ⟨3000, k, ?_⟩
  rw [en53, show (fun q => evJ (F53) 3000 k (td53 q) (em53 q)) = run (step53) k from funext fun q => evJ_run _ _ _ (st53) k q]
  exact h
noncomputable def F25 (g53 : (List Int) → Option ((List Int))) : Fn TT (S52) := ⟨Try.prog, UU, tbl [(53, W (Dl.one (Dc.row UU 3)) g53 (Dc.row UU 3))], Try.f25.ntmps, Try.f25.results.toList, [55], true, annOf [], finD (Dc.agg uu 55)⟩
noncomputable def start25 (g53 : (List Int) → Option ((List Int))) : S52 → Option (S52)
  | x0 => (((g53 (x0).f2)).bind fun r0 => (some (⟨(x0).f0, (x0).f1, r0⟩ : S52)))
noncomputable def f25 (k : Nat) : S52 → Option (S52) := start25 (f53 k)
theorem en25 (g53 : (List Int) → Option ((List Int))) (G : List Item → St TT → Option (S52)) (a : S52) : ev (F25 g53) G 3000 [.code (bodyOf Try.f25)] (st0 ((Dl.one (Dc.agg uu 52)).en a)) = start25 g53 a := by
  kernel_rfl
theorem snd25 (k : Nat) : Snd Try.prog UU 25 (W (Dl.one (Dc.agg uu 52)) (f25 k) (Dc.agg uu 55)) := by
  refine snd_fn (F := F25 (f53 k)) (fn := Try.f25) (body := bodyOf Try.f25) ⟨uu, tbl_ok ⟨snd53 k, trivial⟩, mixed⟩ (by kernel_rfl) (by kernel_rfl) (by kernel_rfl) rfl rfl rfl (fun a => Nat.le_of_ble_eq_true rfl) ?_
  intro a r h
  refine ⟨3000, k, ?_⟩
  rw [en25]
  exact h
noncomputable def F33 : Fn TT (Bool) := ⟨Try.prog, UU, tbl [], Try.f33.ntmps, Try.f33.results.toList, [4], true, annOf [], finD (Dc.bool UU)⟩
noncomputable def start33 : Int × Int × Int → Option (Bool)
  | (x0, x1, x2) => (cond (decide ((x0 : Int) ≥ x1)) (some (decide ((x0 : Int) ≤ x2))) (some false))
noncomputable def f33 (k : Nat) : Int × Int × Int → Option (Bool) := start33
theorem en33 (G : List Item → St TT → Option (Bool)) (a : Int × Int × Int) : ev (F33) G 3000 [.code (bodyOf Try.f33)] (st0 ((Dl.cons (Dc.int UU .i64) (Dl.cons (Dc.int UU .i64) (Dl.one (Dc.int UU .i64)))).en a)) = start33 a := by
  obtain ⟨x0, x1, x2⟩ := a
  kernel_rfl
theorem snd33 (k : Nat) : Snd Try.prog UU 33 (W (Dl.cons (Dc.int UU .i64) (Dl.cons (Dc.int UU .i64) (Dl.one (Dc.int UU .i64)))) (f33 k) (Dc.bool UU)) := by
  refine snd_fn (F := F33) (fn := Try.f33) (body := bodyOf Try.f33) ⟨uu, tbl_ok trivial, mixed⟩ (by kernel_rfl) (by kernel_rfl) (by kernel_rfl) rfl rfl rfl (fun a => Nat.le_of_ble_eq_true rfl) ?_
  intro a r h
  refine ⟨3000, k, ?_⟩
  rw [en33]
  exact h
noncomputable def F37 : Fn TT (Bool) := ⟨Try.prog, UU, tbl [], Try.f37.ntmps, Try.f37.results.toList, [4], true, annOf [], finD (Dc.bool UU)⟩
noncomputable def start37 : S34 → Option (Bool)
  | x0 => (cond (((x0).f0 : Int) == 0) (cond (((x0).f1 : Int) == 0) (cond (((x0).f2 : Int) == 0) (cond (((x0).f3 : Int) == 0) (cond (((x0).f4 : Int) == 0) (cond (((x0).f5 : Int) == 0) (cond (!(x0).f6) (cond (((x0).f7).toList == ((⟨#[]⟩ : ByteArray)).toList) (some ((((((x0).f8).length : Nat) : Int) : Int) == 0)) (some false)) (some false)) (some false)) (some false)) (some false)) (some false)) (some false)) (some false))
noncomputable def f37 (k : Nat) : S34 → Option (Bool) := start37
theorem en37 (G : List Item → St TT → Option (Bool)) (a : S34) : ev (F37) G 3000 [.code (bodyOf Try.f37)] (st0 ((Dl.one (Dc.agg uu 34)).en a)) = start37 a := by
  kernel_rfl
theorem snd37 (k : Nat) : Snd Try.prog UU 37 (W (Dl.one (Dc.agg uu 34)) (f37 k) (Dc.bool UU)) := by
  refine snd_fn (F := F37) (fn := Try.f37) (body := bodyOf Try.f37) ⟨uu, tbl_ok trivial, mixed⟩ (by kernel_rfl) (by kernel_rfl) (by kernel_rfl) rfl rfl rfl (fun a => Nat.le_of_ble_eq_true rfl) ?_
  intro a r h
  refine ⟨3000, k, ?_⟩
  rw [en37]
  exact h
noncomputable def F14 (g33 : Int × Int × Int → Option (Bool)) (g37 : S34 → Option (Bool)) (g38 : ByteArray → Option (Bool)) : Fn TT (Bool) := ⟨Try.prog, UU, tbl [(33, W (Dl.cons (Dc.int UU .i64) (Dl.cons (Dc.int UU .i64) (Dl.one (Dc.int UU .i64)))) g33 (Dc.bool UU)), (37, W (Dl.one (Dc.agg uu 34)) g37 (Dc.bool UU)), (38, W (Dl.one (Dc.str UU)) g38 (Dc.bool UU))], Try.f14.ntmps, Try.f14.results.toList, [4], true, annOf [(3, [1]), (6, [1, 3, 4, 28, 29, 30]), (13, [1, 3, 4, 5, 6, 28, 29, 30]), (15, [1, 3, 4, 5, 6, 28, 29, 30]), (16, [1, 3, 4, 5, 6, 28, 29, 30, 105, 106, 107]), (20, [1, 3, 4, 5, 6, 8, 28, 29, 30, 105, 106, 107]), (23, [1, 3, 4, 28, 29, 30]), (25, [3, 4, 163, 164, 165]), (30, [3, 4, 9, 10, 163, 164, 165]), (31, [3, 4, 9, 10, 163, 164, 165]), (33, [3, 4, 9, 10, 163, 164, 165]), (36, [3, 4, 11, 12, 163, 164, 165]), (41, [3, 4, 163, 164, 165])], finD (Dc.bool UU)⟩
inductive J14 where
  | j3 (x0 : (List S34))
  | j6 (x0 : (List S34)) (x1 : Int) (x2 : Int) (x3 : (List S34)) (x4 : (List Int)) (x5 : (List Int))
  | j23 (x0 : (List S34)) (x1 : Int) (x2 : Int) (x3 : (List S34)) (x4 : (List Int)) (x5 : (List Int))
  | j13 (x0 : Int) (x1 : (List S34)) (x2 : Int) (x3 : Int) (x4 : (List S34)) (x5 : (List Int)) (x6 : (List Int)) (x7 : Int) (x8 : Int) (x9 : Int) (x10 : Int) (x11 : Int) (x12 : Int) (x13 : Bool) (x14 : ByteArray) (x15 : (List S47))
  | j25 (x0 : (List S34)) (x1 : Int) (x2 : Int) (x3 : (List Int)) (x4 : (List Int))
  | j15 (x0 : Int) (x1 : (List S34)) (x2 : Int) (x3 : Int) (x4 : (List S34)) (x5 : (List Int)) (x6 : (List Int)) (x7 : Int) (x8 : Int) (x9 : Int) (x10 : Int) (x11 : Int) (x12 : Int) (x13 : Bool) (x14 : ByteArray) (x15 : (List S47))
  | j41 (x0 : (List S34)) (x1 : Int) (x2 : Int) (x3 : (List Int)) (x4 : (List Int))
  | j33 (x0 : Int) (x1 : (List S34)) (x2 : Int) (x3 : Int) (x4 : (List Int)) (x5 : (List Int)) (x6 : Int) (x7 : Int) (x8 : Int) (x9 : Int) (x10 : Int) (x11 : Int) (x12 : Bool) (x13 : ByteArray) (x14 : (List S47))
  | j30 (x0 : Int) (x1 : (List S34)) (x2 : Int) (x3 : Int) (x4 : (List Int)) (x5 : (List Int)) (x6 : Int) (x7 : Int) (x8 : Int) (x9 : Int) (x10 : Int) (x11 : Int) (x12 : Bool) (x13 : ByteArray) (x14 : (List S47))
  | j16 (x0 : Int) (x1 : (List S34)) (x2 : Int) (x3 : Int) (x4 : (List S47)) (x5 : Int) (x6 : Int) (x7 : (List S34)) (x8 : (List Int)) (x9 : (List Int)) (x10 : Int) (x11 : Int) (x12 : Int) (x13 : Int) (x14 : Int) (x15 : Int) (x16 : Bool) (x17 : ByteArray) (x18 : (List S47))
  | j36 (x0 : Int) (x1 : Int) (x2 : (List S34)) (x3 : Int) (x4 : Int) (x5 : (List Int)) (x6 : (List Int))
  | j31 (x0 : Int) (x1 : (List S34)) (x2 : Int) (x3 : Int) (x4 : (List Int)) (x5 : (List Int)) (x6 : Int) (x7 : Int) (x8 : Int) (x9 : Int) (x10 : Int) (x11 : Int) (x12 : Bool) (x13 : ByteArray) (x14 : (List S47))
  | j20 (x0 : Int) (x1 : (List S34)) (x2 : Int) (x3 : Int) (x4 : (List S47)) (x5 : Int) (x6 : Int) (x7 : (List S34)) (x8 : (List Int)) (x9 : (List Int)) (x10 : Int) (x11 : Int) (x12 : Int) (x13 : Int) (x14 : Int) (x15 : Int) (x16 : Bool) (x17 : ByteArray) (x18 : (List S47)) (x19 : ByteArray) (x20 : Int)
noncomputable def td14 : J14 → List Item
  | .j3 _ => fnd 3 (bodyOf Try.f14) []
  | .j6 _ _ _ _ _ _ => fnd 6 (bodyOf Try.f14) []
  | .j23 _ _ _ _ _ _ => fnd 23 (bodyOf Try.f14) []
  | .j13 _ _ _ _ _ _ _ _ _ _ _ _ _ _ _ _ => fnd 13 (bodyOf Try.f14) []
  | .j25 _ _ _ _ _ => fnd 25 (bodyOf Try.f14) []
  | .j15 _ _ _ _ _ _ _ _ _ _ _ _ _ _ _ _ => fnd 15 (bodyOf Try.f14) []
  | .j41 _ _ _ _ _ => fnd 41 (bodyOf Try.f14) []
  | .j33 _ _ _ _ _ _ _ _ _ _ _ _ _ _ _ => fnd 33 (bodyOf Try.f14) []
  | .j30 _ _ _ _ _ _ _ _ _ _ _ _ _ _ _ => fnd 30 (bodyOf Try.f14) []
  | .j16 _ _ _ _ _ _ _ _ _ _ _ _ _ _ _ _ _ _ _ => fnd 16 (bodyOf Try.f14) []
  | .j36 _ _ _ _ _ _ _ => fnd 36 (bodyOf Try.f14) []
  | .j31 _ _ _ _ _ _ _ _ _ _ _ _ _ _ _ => fnd 31 (bodyOf Try.f14) []
  | .j20 _ _ _ _ _ _ _ _ _ _ _ _ _ _ _ _ _ _ _ _ _ => fnd 20 (bodyOf Try.f14) []
noncomputable def em14 : J14 → St TT
  | .j3 x0 => ⟨[(1, .ptr 0 0)], [(0, .cells 27 [.row 34 x0])], 1⟩
  | .j6 x0 x1 x2 x3 x4 x5 => ⟨[(1, .ptr 0 0), (3, .own 1), (4, .own 2), (28, .row 34 x0), (29, .v (.int .i64 x1)), (30, .v (.int .i64 x2))], [(0, .cells 27 [.row 34 x3]), (1, .arr 3 x4), (2, .arr 3 x5)], 3⟩
  | .j23 x0 x1 x2 x3 x4 x5 => ⟨[(1, .ptr 0 0), (3, .own 1), (4, .own 2), (28, .row 34 x0), (29, .v (.int .i64 x1)), (30, .v (.int .i64 x2))], [(0, .cells 27 [.row 34 x3]), (1, .arr 3 x4), (2, .arr 3 x5)], 3⟩
  | .j13 x0 x1 x2 x3 x4 x5 x6 x7 x8 x9 x10 x11 x12 x13 x14 x15 => ⟨[(1, .ptr 0 0), (3, .own 1), (4, .own 2), (5, .v (.int .i64 x0)), (6, .ptr 3 0), (28, .row 34 x1), (29, .v (.int .i64 x2)), (30, .v (.int .i64 x3))], [(0, .cells 27 [.row 34 x4]), (1, .arr 3 x5), (2, .arr 3 x6), (3, .cells 34 [.v (.int .i64 x7), .v (.int .i64 x8), .v (.int .i64 x9), .v (.int .i64 x10), .v (.int .i64 x11), .v (.int .i64 x12), .v (.bool x13), .v (.string x14), .row 47 x15])], 4⟩
  | .j25 x0 x1 x2 x3 x4 => ⟨[(3, .own 0), (4, .own 1), (163, .row 34 x0), (164, .v (.int .i64 x1)), (165, .v (.int .i64 x2))], [(0, .arr 3 x3), (1, .arr 3 x4)], 2⟩
  | .j15 x0 x1 x2 x3 x4 x5 x6 x7 x8 x9 x10 x11 x12 x13 x14 x15 => ⟨[(1, .ptr 0 0), (3, .own 1), (4, .own 2), (5, .v (.int .i64 x0)), (6, .ptr 3 0), (28, .row 34 x1), (29, .v (.int .i64 x2)), (30, .v (.int .i64 x3))], [(0, .cells 27 [.row 34 x4]), (1, .arr 3 x5), (2, .arr 3 x6), (3, .cells 34 [.v (.int .i64 x7), .v (.int .i64 x8), .v (.int .i64 x9), .v (.int .i64 x10), .v (.int .i64 x11), .v (.int .i64 x12), .v (.bool x13), .v (.string x14), .row 47 x15])], 4⟩
  | .j41 x0 x1 x2 x3 x4 => ⟨[(3, .own 0), (4, .own 1), (163, .row 34 x0), (164, .v (.int .i64 x1)), (165, .v (.int .i64 x2))], [(0, .arr 3 x3), (1, .arr 3 x4)], 2⟩
  | .j33 x0 x1 x2 x3 x4 x5 x6 x7 x8 x9 x10 x11 x12 x13 x14 => ⟨[(3, .own 0), (4, .own 1), (9, .v (.int .i64 x0)), (10, .ptr 2 0), (163, .row 34 x1), (164, .v (.int .i64 x2)), (165, .v (.int .i64 x3))], [(0, .arr 3 x4), (1, .arr 3 x5), (2, .cells 34 [.v (.int .i64 x6), .v (.int .i64 x7), .v (.int .i64 x8), .v (.int .i64 x9), .v (.int .i64 x10), .v (.int .i64 x11), .v (.bool x12), .v (.string x13), .row 47 x14])], 3⟩
  | .j30 x0 x1 x2 x3 x4 x5 x6 x7 x8 x9 x10 x11 x12 x13 x14 => ⟨[(3, .own 0), (4, .own 1), (9, .v (.int .i64 x0)), (10, .ptr 2 0), (163, .row 34 x1), (164, .v (.int .i64 x2)), (165, .v (.int .i64 x3))], [(0, .arr 3 x4), (1, .arr 3 x5), (2, .cells 34 [.v (.int .i64 x6), .v (.int .i64 x7), .v (.int .i64 x8), .v (.int .i64 x9), .v (.int .i64 x10), .v (.int .i64 x11), .v (.bool x12), .v (.string x13), .row 47 x14])], 3⟩
  | .j16 x0 x1 x2 x3 x4 x5 x6 x7 x8 x9 x10 x11 x12 x13 x14 x15 x16 x17 x18 => ⟨[(1, .ptr 0 0), (3, .own 1), (4, .own 2), (5, .v (.int .i64 x0)), (6, .ptr 3 0), (28, .row 34 x1), (29, .v (.int .i64 x2)), (30, .v (.int .i64 x3)), (105, .row 47 x4), (106, .v (.int .i64 x5)), (107, .v (.int .i64 x6))], [(0, .cells 27 [.row 34 x7]), (1, .arr 3 x8), (2, .arr 3 x9), (3, .cells 34 [.v (.int .i64 x10), .v (.int .i64 x11), .v (.int .i64 x12), .v (.int .i64 x13), .v (.int .i64 x14), .v (.int .i64 x15), .v (.bool x16), .v (.string x17), .row 47 x18])], 4⟩
  | .j36 x0 x1 x2 x3 x4 x5 x6 => ⟨[(3, .own 0), (4, .own 1), (11, .v (.int .i64 x0)), (12, .v (.int .i64 x1)), (163, .row 34 x2), (164, .v (.int .i64 x3)), (165, .v (.int .i64 x4))], [(0, .arr 3 x5), (1, .arr 3 x6)], 2⟩
  | .j31 x0 x1 x2 x3 x4 x5 x6 x7 x8 x9 x10 x11 x12 x13 x14 => ⟨[(3, .own 0), (4, .own 1), (9, .v (.int .i64 x0)), (10, .ptr 2 0), (163, .row 34 x1), (164, .v (.int .i64 x2)), (165, .v (.int .i64 x3))], [(0, .arr 3 x4), (1, .arr 3 x5), (2, .cells 34 [.v (.int .i64 x6), .v (.int .i64 x7), .v (.int .i64 x8), .v (.int .i64 x9), .v (.int .i64 x10), .v (.int .i64 x11), .v (.bool x12), .v (.string x13), .row 47 x14])], 3⟩
  | .j20 x0 x1 x2 x3 x4 x5 x6 x7 x8 x9 x10 x11 x12 x13 x14 x15 x16 x17 x18 x19 x20 => ⟨[(1, .ptr 0 0), (3, .own 1), (4, .own 2), (5, .v (.int .i64 x0)), (6, .ptr 3 0), (8, .ptr 4 0), (28, .row 34 x1), (29, .v (.int .i64 x2)), (30, .v (.int .i64 x3)), (105, .row 47 x4), (106, .v (.int .i64 x5)), (107, .v (.int .i64 x6))], [(0, .cells 27 [.row 34 x7]), (1, .arr 3 x8), (2, .arr 3 x9), (3, .cells 34 [.v (.int .i64 x10), .v (.int .i64 x11), .v (.int .i64 x12), .v (.int .i64 x13), .v (.int .i64 x14), .v (.int .i64 x15), .v (.bool x16), .v (.string x17), .row 47 x18]), (4, .cells 47 [.v (.string x19), .v (.int .i64 x20)])], 5⟩
noncomputable def step14 (g33 : Int × Int × Int → Option (Bool)) (g37 : S34 → Option (Bool)) (g38 : ByteArray → Option (Bool)) (go : J14 → Option (Bool)) : J14 → Option (Bool)
  | .j3 x0 => (go (.j6 x0 (((x0).length : Nat) : Int) 0 x0 (List.replicate 10 0) (List.replicate 10 0)))
  | .j6 x0 x1 x2 x3 x4 x5 => (cond (decide ((x2 : Int) < x1)) (cond (decide ((0 : Int) ≤ x2)) (cond (decide ((x2 : Int) < (((x0).length : Nat) : Int))) (cond ((((rd34 x0 x2)).f0 : Int) == 0) (((g37 ((rd34 x0 x2)))).bind fun r0 => (cond (!r0) (some false) (go (.j23 x0 x1 x2 x3 x4 x5)))) (((g33 (((rd34 x0 x2)).f0, (1, 2)))).bind fun r1 => (cond (!r1) (some false) (((g33 (((rd34 x0 x2)).f1, (0, 511)))).bind fun r2 => (cond (!r2) (some false) (((g33 (((rd34 x0 x2)).f2, (0, 9)))).bind fun r3 => (cond (!r3) (some false) (((g33 (((rd34 x0 x2)).f3, (0, 9)))).bind fun r4 => (cond (!r4) (some false) (((g33 (((rd34 x0 x2)).f5, (0, 99)))).bind fun r5 => (cond (!r5) (some false) (go (.j13 x2 x0 x1 x2 x3 x4 x5 ((rd34 x0 x2)).f0 ((rd34 x0 x2)).f1 ((rd34 x0 x2)).f2 ((rd34 x0 x2)).f3 ((rd34 x0 x2)).f4 ((rd34 x0 x2)).f5 ((rd34 x0 x2)).f6 ((rd34 x0 x2)).f7 ((rd34 x0 x2)).f8))))))))))))) none) none) (go (.j25 x3 (((x3).length : Nat) : Int) 0 x4 x5)))
  | .j23 x0 x1 x2 x3 x4 x5 => (go (.j6 x0 x1 (w64 (x2 + 1)) x3 x4 x5))
  | .j13 x0 x1 x2 x3 x4 x5 x6 x7 x8 x9 x10 x11 x12 x13 x14 x15 => (cond ((x7 : Int) == 1) (cond (decide (((((x14).size : Nat) : Int) : Int) > 40)) (some false) (cond (decide (((((x15).length : Nat) : Int) : Int) > 0)) (some false) (cond ((x7 : Int) == 2) (cond (!((x14).toList == ((⟨#[]⟩ : ByteArray)).toList)) (some false) (cond x13 (some false) (cond (decide (((((x15).length : Nat) : Int) : Int) > 6)) (some false) (go (.j15 x0 x1 x2 x3 x4 x5 x6 x7 x8 x9 x10 x11 x12 x13 x14 x15))))) (go (.j15 x0 x1 x2 x3 x4 x5 x6 x7 x8 x9 x10 x11 x12 x13 x14 x15))))) (cond ((x7 : Int) == 2) (cond (!((x14).toList == ((⟨#[]⟩ : ByteArray)).toList)) (some false) (cond x13 (some false) (cond (decide (((((x15).length : Nat) : Int) : Int) > 6)) (some false) (go (.j15 x0 x1 x2 x3 x4 x5 x6 x7 x8 x9 x10 x11 x12 x13 x14 x15))))) (go (.j15 x0 x1 x2 x3 x4 x5 x6 x7 x8 x9 x10 x11 x12 x13 x14 x15))))
  | .j25 x0 x1 x2 x3 x4 => (cond (decide ((x2 : Int) < x1)) (cond (decide ((0 : Int) ≤ x2)) (cond (decide ((x2 : Int) < (((x0).length : Nat) : Int))) (cond ((((rd34 x0 x2)).f0 : Int) == 0) (go (.j41 x0 x1 x2 x3 x4)) (cond (decide ((0 : Int) ≤ x2)) (cond (decide ((x2 : Int) < (((x3).length : Nat) : Int))) (cond (decide ((0 : Int) ≤ x2)) (cond (decide ((x2 : Int) < (((x3).length : Nat) : Int))) (cond ((((rd34 x0 x2)).f4 : Int) != (rd3 x3 x2)) (cond ((((rd34 x0 x2)).f4 : Int) != (rd3 x3 x2)) (some false) (go (.j33 x2 x0 x1 x2 x3 x4 ((rd34 x0 x2)).f0 ((rd34 x0 x2)).f1 ((rd34 x0 x2)).f2 ((rd34 x0 x2)).f3 ((rd34 x0 x2)).f4 ((rd34 x0 x2)).f5 ((rd34 x0 x2)).f6 ((rd34 x0 x2)).f7 ((rd34 x0 x2)).f8))) (cond ((((rd34 x0 x2)).f0 : Int) == 1) (cond ((((rd34 x0 x2)).f4 : Int) == 0) (cond ((((rd34 x0 x2)).f5 : Int) == 0) (cond ((((rd34 x0 x2)).f5 : Int) == 0) (some false) (go (.j33 x2 x0 x1 x2 x3 x4 ((rd34 x0 x2)).f0 ((rd34 x0 x2)).f1 ((rd34 x0 x2)).f2 ((rd34 x0 x2)).f3 ((rd34 x0 x2)).f4 ((rd34 x0 x2)).f5 ((rd34 x0 x2)).f6 ((rd34 x0 x2)).f7 ((rd34 x0 x2)).f8))) (go (.j30 x2 x0 x1 x2 x3 x4 ((rd34 x0 x2)).f0 ((rd34 x0 x2)).f1 ((rd34 x0 x2)).f2 ((rd34 x0 x2)).f3 ((rd34 x0 x2)).f4 ((rd34 x0 x2)).f5 ((rd34 x0 x2)).f6 ((rd34 x0 x2)).f7 ((rd34 x0 x2)).f8))) (go (.j30 x2 x0 x1 x2 x3 x4 ((rd34 x0 x2)).f0 ((rd34 x0 x2)).f1 ((rd34 x0 x2)).f2 ((rd34 x0 x2)).f3 ((rd34 x0 x2)).f4 ((rd34 x0 x2)).f5 ((rd34 x0 x2)).f6 ((rd34 x0 x2)).f7 ((rd34 x0 x2)).f8))) (go (.j30 x2 x0 x1 x2 x3 x4 ((rd34 x0 x2)).f0 ((rd34 x0 x2)).f1 ((rd34 x0 x2)).f2 ((rd34 x0 x2)).f3 ((rd34 x0 x2)).f4 ((rd34 x0 x2)).f5 ((rd34 x0 x2)).f6 ((rd34 x0 x2)).f7 ((rd34 x0 x2)).f8)))) none) none) none) none)) none) none) (some true))
  | .j15 x0 x1 x2 x3 x4 x5 x6 x7 x8 x9 x10 x11 x12 x13 x14 x15 => (go (.j16 x0 x1 x2 x3 x15 (((x15).length : Nat) : Int) 0 x4 x5 x6 x7 x8 x9 x10 x11 x12 x13 x14 x15))
  | .j41 x0 x1 x2 x3 x4 => (go (.j25 x0 x1 (w64 (x2 + 1)) x3 x4))
  | .j33 x0 x1 x2 x3 x4 x5 x6 x7 x8 x9 x10 x11 x12 x13 x14 => (cond ((x6 : Int) == 2) (go (.j36 x0 0 x1 x2 x3 x4 x5)) (go (.j41 x1 x2 x3 x4 x5)))
  | .j30 x0 x1 x2 x3 x4 x5 x6 x7 x8 x9 x10 x11 x12 x13 x14 => (cond ((x6 : Int) == 2) (cond (decide ((x0 : Int) > 0)) (cond ((x10 : Int) != 1) (cond ((x10 : Int) != 1) (some false) (go (.j33 x0 x1 x2 x3 x4 x5 x6 x7 x8 x9 x10 x11 x12 x13 x14))) (go (.j31 x0 x1 x2 x3 x4 x5 x6 x7 x8 x9 x10 x11 x12 x13 x14))) (go (.j31 x0 x1 x2 x3 x4 x5 x6 x7 x8 x9 x10 x11 x12 x13 x14))) (go (.j31 x0 x1 x2 x3 x4 x5 x6 x7 x8 x9 x10 x11 x12 x13 x14)))
  | .j16 x0 x1 x2 x3 x4 x5 x6 x7 x8 x9 x10 x11 x12 x13 x14 x15 x16 x17 x18 => (cond (decide ((x6 : Int) < x5)) (cond (decide ((0 : Int) ≤ x6)) (cond (decide ((x6 : Int) < (((x4).length : Nat) : Int))) (((g38 ((rd47 x4 x6)).f0)).bind fun r6 => (cond (!r6) (some false) (((g33 (((rd47 x4 x6)).f1, (0, 9)))).bind fun r7 => (cond (!r7) (some false) (cond (decide ((0 : Int) ≤ ((rd47 x4 x6)).f1)) (cond (decide ((((rd47 x4 x6)).f1 : Int) < (((x7).length : Nat) : Int))) (cond ((((rd34 x7 ((rd47 x4 x6)).f1)).f0 : Int) == 0) (some false) (cond (decide ((x6 : Int) > 0)) (cond (decide ((0 : Int) ≤ (w64 (x6 - 1)))) (cond (decide (((w64 (x6 - 1)) : Int) < (((x18).length : Nat) : Int))) (cond (!(Go.Op.bytesLess (((rd47 x18 (w64 (x6 - 1)))).f0).toList (((rd47 x4 x6)).f0).toList)) (some false) (go (.j20 x0 x1 x2 x3 x4 x5 x6 x7 x8 x9 x10 x11 x12 x13 x14 x15 x16 x17 x18 ((rd47 x4 x6)).f0 ((rd47 x4 x6)).f1))) none) none) (go (.j20 x0 x1 x2 x3 x4 x5 x6 x7 x8 x9 x10 x11 x12 x13 x14 x15 x16 x17 x18 ((rd47 x4 x6)).f0 ((rd47 x4 x6)).f1)))) none) none))))) none) none) (go (.j23 x1 x2 x3 x7 x8 x9)))
  | .j36 x0 x1 x2 x3 x4 x5 x6 => (cond ((x0 : Int) != 0) (cond (decide ((x1 : Int) > 10)) (some false) (cond (decide ((0 : Int) ≤ x0)) (cond (decide ((x0 : Int) < (((x6).length : Nat) : Int))) (cond (decide ((0 : Int) ≤ x0)) (cond (decide ((x0 : Int) < (((x6).length : Nat) : Int))) (go (.j36 (rd3 x6 x0) (w64 (x1 + 1)) x2 x3 x4 x5 x6)) none) none) none) none)) (go (.j41 x2 x3 x4 x5 x6)))
  | .j31 x0 x1 x2 x3 x4 x5 x6 x7 x8 x9 x10 x11 x12 x13 x14 => (cond ((x0 : Int) == 0) (cond ((x10 : Int) != 0) (some false) (go (.j33 x0 x1 x2 x3 x4 x5 x6 x7 x8 x9 x10 x11 x12 x13 x14))) (go (.j33 x0 x1 x2 x3 x4 x5 x6 x7 x8 x9 x10 x11 x12 x13 x14)))
  | .j20 x0 x1 x2 x3 x4 x5 x6 x7 x8 x9 x10 x11 x12 x13 x14 x15 x16 x17 x18 x19 x20 => (cond (decide ((0 : Int) ≤ x20)) (cond (decide ((x20 : Int) < (((x8).length : Nat) : Int))) (cond (decide ((0 : Int) ≤ x20)) (cond (decide ((x20 : Int) < (((x8).length : Nat) : Int))) (cond (decide ((0 : Int) ≤ x20)) (cond (decide ((x20 : Int) < (((x8).length : Nat) : Int))) (cond (decide ((0 : Int) ≤ x20)) (cond (decide ((x20 : Int) < (((x8).length : Nat) : Int))) (cond (decide ((0 : Int) ≤ x20)) (cond (decide ((x20 : Int) < (((x9).length : Nat) : Int))) (cond (decide ((0 : Int) ≤ x20)) (cond (decide ((x20 : Int) < (((x9).length : Nat) : Int))) (go (.j16 x0 x1 x2 x3 x4 x5 (w64 (x6 + 1)) x7 (List.set x8 (x20).toNat (w64 ((rd3 x8 x20) + 1))) (List.set x9 (x20).toNat x0) x10 x11 x12 x13 x14 x15 x16 x17 x18)) none) none) none) none) none) none) none) none) none) none) none) none)
noncomputable def start14 (g33 : Int × Int × Int → Option (Bool)) (g37 : S34 → Option (Bool)) (g38 : ByteArray → Option (Bool)) (go : J14 → Option (Bool)) : S27 → Option (Bool)
  | x0 => (cond ((((((x0).f0).length : Nat) : Int) : Int) != 10) (some false) (cond (decide ((0 : Int) < ((((x0).f0).length : Nat) : Int))) (cond ((((rd34 (x0).f0 0)).f0 : Int) != 2) (some false) (go (.j3 (x0).f0))) none))
noncomputable def f14 (k : Nat) : S27 → Option (Bool) := start14 (f33 k) (f37 k) (f38 k) (run (step14 (f33 k) (f37 k) (f38 k)) k)
theorem st14 (g33 : Int × Int × Int → Option (Bool)) (g37 : S34 → Option (Bool)) (g38 : ByteArray → Option (Bool)) (G : List Item → St TT → Option (Bool)) (p : J14) : evFrom (F14 g33 g37 g38) G 3000 (td14 p) (em14 p) = step14 g33 g37 g38 (fun q => G (td14 q) (em14 q)) p := by
  cases p <;> kernel_rfl
theorem en14 (g33 : Int × Int × Int → Option (Bool)) (g37 : S34 → Option (Bool)) (g38 : ByteArray → Option (Bool)) (G : List Item → St TT → Option (Bool)) (a : S27) : ev (F14 g33 g37 g38) G 3000 [.code (bodyOf Try.f14)] (st0 ((Dl.one (Dc.agg uu 27)).en a)) = start14 g33 g37 g38 (fun q => G (td14 q) (em14 q)) a := by
  kernel_rfl
theorem snd14 (k : Nat) : Snd Try.prog UU 14 (W (Dl.one (Dc.agg uu 27)) (f14 k) (Dc.bool UU)) := by
  refine snd_fn (F := F14 (f33 k) (f37 k) (f38 k)) (fn := Try.f14) (body := bodyOf Try.f14) ⟨uu, tbl_ok ⟨snd33 k, snd37 k, snd38 k, trivial⟩, mixed⟩ (by kernel_rfl) (by kernel_rfl) (by kernel_rfl) rfl rfl rfl (fun a => Nat.le_of_ble_eq_true rfl) ?_
  intro a r h
  refine ⟨3000, k, ?_⟩
  rw [en14, show (fun q => evJ (F14 (f33 k) (f37 k) (f38 k)) 3000 k (td14 q) (em14 q)) = run (step14 (f33 k) (f37 k) (f38 k)) k from funext fun q => evJ_run _ _ _ (st14 (f33 k) (f37 k) (f38 k)) k q]
  exact h
noncomputable def F46 (g33 : Int × Int × Int → Option (Bool)) : Fn TT (Bool) := ⟨Try.prog, UU, tbl [(33, W (Dl.cons (Dc.int UU .i64) (Dl.cons (Dc.int UU .i64) (Dl.one (Dc.int UU .i64)))) g33 (Dc.bool UU))], Try.f46.ntmps, Try.f46.results.toList, [4], true, annOf [], finD (Dc.bool UU)⟩
noncomputable def start46 (g33 : Int × Int × Int → Option (Bool)) : S27 × Int → Option (Bool)
  | (x0, x1) => (((g33 (x1, (0, (w64 (((((x0).f0).length : Nat) : Int) - 1)))))).bind fun r0 => (cond r0 (cond (decide ((0 : Int) ≤ x1)) (cond (decide ((x1 : Int) < ((((x0).f0).length : Nat) : Int))) (some ((((rd34 (x0).f0 x1)).f0 : Int) != 0)) none) none) (some false)))
noncomputable def f46 (k : Nat) : S27 × Int → Option (Bool) := start46 (f33 k)
theorem en46 (g33 : Int × Int × Int → Option (Bool)) (G : List Item → St TT → Option (Bool)) (a : S27 × Int) : ev (F46 g33) G 3000 [.code (bodyOf Try.f46)] (st0 ((Dl.cons (Dc.agg uu 27) (Dl.one (Dc.int UU .i64))).en a)) = start46 g33 a := by
  obtain ⟨x0, x1⟩ := a
  kernel_rfl
theorem snd46 (k : Nat) : Snd Try.prog UU 46 (W (Dl.cons (Dc.agg uu 27) (Dl.one (Dc.int UU .i64))) (f46 k) (Dc.bool UU)) := by
  refine snd_fn (F := F46 (f33 k)) (fn := Try.f46) (body := bodyOf Try.f46) ⟨uu, tbl_ok ⟨snd33 k, trivial⟩, mixed⟩ (by kernel_rfl) (by kernel_rfl) (by kernel_rfl) rfl rfl rfl (fun a => Nat.le_of_ble_eq_true rfl) ?_
  intro a r h
  refine ⟨3000, k, ?_⟩
  rw [en46]
  exact h
noncomputable def F60 (g33 : Int × Int × Int → Option (Bool)) : Fn TT (Bool) := ⟨Try.prog, UU, tbl [(33, W (Dl.cons (Dc.int UU .i64) (Dl.cons (Dc.int UU .i64) (Dl.one (Dc.int UU .i64)))) g33 (Dc.bool UU))], Try.f60.ntmps, Try.f60.results.toList, [4], true, annOf [(2, [1, 6, 7, 8]), (6, [1, 6, 7, 8])], finD (Dc.bool UU)⟩
inductive J60 where
  | j2 (x0 : (List Int)) (x1 : Int) (x2 : Int) (x3 : Int) (x4 : Int) (x5 : (List Int))
  | j6 (x0 : (List Int)) (x1 : Int) (x2 : Int) (x3 : Int) (x4 : Int) (x5 : (List Int))
noncomputable def td60 : J60 → List Item
  | .j2 _ _ _ _ _ _ => fnd 2 (bodyOf Try.f60) []
  | .j6 _ _ _ _ _ _ => fnd 6 (bodyOf Try.f60) []
noncomputable def em60 : J60 → St TT
  | .j2 x0 x1 x2 x3 x4 x5 => ⟨[(1, .ptr 0 0), (6, .row 3 x0), (7, .v (.int .i64 x1)), (8, .v (.int .i64 x2))], [(0, .cells 55 [.v (.int .i64 x3), .v (.int .i64 x4), .row 3 x5])], 1⟩
  | .j6 x0 x1 x2 x3 x4 x5 => ⟨[(1, .ptr 0 0), (6, .row 3 x0), (7, .v (.int .i64 x1)), (8, .v (.int .i64 x2))], [(0, .cells 55 [.v (.int .i64 x3), .v (.int .i64 x4), .row 3 x5])], 1⟩
noncomputable def step60 (g33 : Int × Int × Int → Option (Bool)) (go : J60 → Option (Bool)) : J60 → Option (Bool)
  | .j2 x0 x1 x2 x3 x4 x5 => (cond (decide ((x2 : Int) < x1)) (cond (decide ((0 : Int) ≤ x2)) (cond (decide ((x2 : Int) < (((x0).length : Nat) : Int))) (((g33 ((rd3 x0 x2), (0, 9)))).bind fun r0 => (cond (!r0) (some false) (cond (decide ((x2 : Int) > 0)) (cond (decide ((0 : Int) ≤ (w64 (x2 - 1)))) (cond (decide (((w64 (x2 - 1)) : Int) < (((x5).length : Nat) : Int))) (cond (decide (((rd3 x5 (w64 (x2 - 1))) : Int) ≥ (rd3 x0 x2))) (some false) (go (.j6 x0 x1 x2 x3 x4 x5))) none) none) (go (.j6 x0 x1 x2 x3 x4 x5))))) none) none) (((g33 (x3, (0, 9)))).bind fun r1 => (cond r1 (((g33 (x4, (0, 9)))).bind fun r2 => (cond r2 (some (decide (((((x5).length : Nat) : Int) : Int) ≤ 3))) (some false))) (some false))))
  | .j6 x0 x1 x2 x3 x4 x5 => (go (.j2 x0 x1 (w64 (x2 + 1)) x3 x4 x5))
noncomputable def start60 (g33 : Int × Int × Int → Option (Bool)) (go : J60 → Option (Bool)) : S52 → Option (Bool)
  | x0 => (go (.j2 (x0).f2 ((((x0).f2).length : Nat) : Int) 0 (x0).f0 (x0).f1 (x0).f2))
noncomputable def f60 (k : Nat) : S52 → Option (Bool) := start60 (f33 k) (run (step60 (f33 k)) k)
theorem st60 (g33 : Int × Int × Int → Option (Bool)) (G : List Item → St TT → Option (Bool)) (p : J60) : evFrom (F60 g33) G 3000 (td60 p) (em60 p) = step60 g33 (fun q => G (td60 q) (em60 q)) p := by
  cases p <;> kernel_rfl
theorem en60 (g33 : Int × Int × Int → Option (Bool)) (G : List Item → St TT → Option (Bool)) (a : S52) : ev (F60 g33) G 3000 [.code (bodyOf Try.f60)] (st0 ((Dl.one (Dc.agg uu 55)).en a)) = start60 g33 (fun q => G (td60 q) (em60 q)) a := by
  kernel_rfl
theorem snd60 (k : Nat) : Snd Try.prog UU 60 (W (Dl.one (Dc.agg uu 55)) (f60 k) (Dc.bool UU)) := by
  refine snd_fn (F := F60 (f33 k)) (fn := Try.f60) (body := bodyOf Try.f60) ⟨uu, tbl_ok ⟨snd33 k, trivial⟩, mixed⟩ (by kernel_rfl) (by kernel_rfl) (by kernel_rfl) rfl rfl rfl (fun a => Nat.le_of_ble_eq_true rfl) ?_
  intro a r h
  refine ⟨3000, k, ?_⟩
  rw [en60, show (fun q => evJ (F60 (f33 k)) 3000 k (td60 q) (em60 q)) = run (step60 (f33 k)) k from funext fun q => evJ_run _ _ _ (st60 (f33 k)) k q]
  exact h
noncomputable def F54 (g14 : S27 → Option (Bool)) (g46 : S27 × Int → Option (Bool)) (g60 : S52 → Option (Bool)) : Fn TT (Bool) := ⟨Try.prog, UU, tbl [(14, W (Dl.one (Dc.agg uu 27)) g14 (Dc.bool UU)), (46, W (Dl.cons (Dc.agg uu 27) (Dl.one (Dc.int UU .i64))) g46 (Dc.bool UU)), (60, W (Dl.one (Dc.agg uu 55)) g60 (Dc.bool UU))], Try.f54.ntmps, Try.f54.results.toList, [4], true, annOf [(3, [2, 3]), (4, [3, 17, 18, 19])], finD (Dc.bool UU)⟩
inductive J54 where
  | j3 (x0 : (List Int)) (x1 : (List S34))
  | j4 (x0 : (List Int)) (x1 : Int) (x2 : Int) (x3 : (List S34))
noncomputable def td54 : J54 → List Item
  | .j3 _ _ => fnd 3 (bodyOf Try.f54) []
  | .j4 _ _ _ _ => fnd 4 (bodyOf Try.f54) []
noncomputable def em54 : J54 → St TT
  | .j3 x0 x1 => ⟨[(2, .row 3 x0), (3, .ptr 0 0)], [(0, .cells 27 [.row 34 x1])], 1⟩
  | .j4 x0 x1 x2 x3 => ⟨[(3, .ptr 0 0), (17, .row 3 x0), (18, .v (.int .i64 x1)), (19, .v (.int .i64 x2))], [(0, .cells 27 [.row 34 x3])], 1⟩
noncomputable def step54 (g14 : S27 → Option (Bool)) (g46 : S27 × Int → Option (Bool)) (g60 : S52 → Option (Bool)) (go : J54 → Option (Bool)) : J54 → Option (Bool)
  | .j3 x0 x1 => (go (.j4 x0 (((x0).length : Nat) : Int) 0 x1))
  | .j4 x0 x1 x2 x3 => (cond (decide ((x2 : Int) < x1)) (cond (decide ((0 : Int) ≤ x2)) (cond (decide ((x2 : Int) < (((x0).length : Nat) : Int))) (((g46 ((⟨x3⟩ : S27), (rd3 x0 x2)))).bind fun r2 => (cond (!r2) (some false) (go (.j4 x0 x1 (w64 (x2 + 1)) x3)))) none) none) (some true))
noncomputable def start54 (g14 : S27 → Option (Bool)) (g46 : S27 × Int → Option (Bool)) (g60 : S52 → Option (Bool)) (go : J54 → Option (Bool)) : S27 × S52 × (List Int) → Option (Bool)
  | (x0, x1, x2) => (((g14 (x0))).bind fun r0 => (cond (!r0) (some false) (((g60 (x1))).bind fun r1 => (cond (!r1) (some false) (go (.j3 x2 (x0).f0))))))
noncomputable def f54 (k : Nat) : S27 × S52 × (List Int) → Option (Bool) := start54 (f14 k) (f46 k) (f60 k) (run (step54 (f14 k) (f46 k) (f60 k)) k)
theorem st54 (g14 : S27 → Option (Bool)) (g46 : S27 × Int → Option (Bool)) (g60 : S52 → Option (Bool)) (G : List Item → St TT → Option (Bool)) (p : J54) : evFrom (F54 g14 g46 g60) G 3000 (td54 p) (em54 p) = step54 g14 g46 g60 (fun q => G (td54 q) (em54 q)) p := by
  cases p <;> kernel_rfl
theorem en54 (g14 : S27 → Option (Bool)) (g46 : S27 × Int → Option (Bool)) (g60 : S52 → Option (Bool)) (G : List Item → St TT → Option (Bool)) (a : S27 × S52 × (List Int)) : ev (F54 g14 g46 g60) G 3000 [.code (bodyOf Try.f54)] (st0 ((Dl.cons (Dc.agg uu 27) (Dl.cons (Dc.agg uu 55) (Dl.one (Dc.row UU 3)))).en a)) = start54 g14 g46 g60 (fun q => G (td54 q) (em54 q)) a := by
  obtain ⟨x0, x1, x2⟩ := a
  kernel_rfl
theorem snd54 (k : Nat) : Snd Try.prog UU 54 (W (Dl.cons (Dc.agg uu 27) (Dl.cons (Dc.agg uu 55) (Dl.one (Dc.row UU 3)))) (f54 k) (Dc.bool UU)) := by
  refine snd_fn (F := F54 (f14 k) (f46 k) (f60 k)) (fn := Try.f54) (body := bodyOf Try.f54) ⟨uu, tbl_ok ⟨snd14 k, snd46 k, snd60 k, trivial⟩, mixed⟩ (by kernel_rfl) (by kernel_rfl) (by kernel_rfl) rfl rfl rfl (fun a => Nat.le_of_ble_eq_true rfl) ?_
  intro a r h
  refine ⟨3000, k, ?_⟩
  rw [en54, show (fun q => evJ (F54 (f14 k) (f46 k) (f60 k)) 3000 k (td54 q) (em54 q)) = run (step54 (f14 k) (f46 k) (f60 k)) k from funext fun q => evJ_run _ _ _ (st54 (f14 k) (f46 k) (f60 k)) k q]
  exact h
noncomputable def F61 : Fn TT (Int) := ⟨Try.prog, UU, tbl [], Try.f61.ntmps, Try.f61.results.toList, [3], true, annOf [], finD (Dc.int UU .i64)⟩
noncomputable def start61 : Int × Int → Option (Int)
  | (x0, x1) => (cond (!(decide (((w64 (3 * (w64 (2 - x1)))) : Int) < 0))) (some (and_ Go.IntKind.i64 (shr_ Go.IntKind.i64 x0 (w64 (3 * (w64 (2 - x1))))) 7)) none)
noncomputable def f61 (k : Nat) : Int × Int → Option (Int) := start61
theorem en61 (G : List Item → St TT → Option (Int)) (a : Int × Int) : ev (F61) G 3000 [.code (bodyOf Try.f61)] (st0 ((Dl.cons (Dc.int UU .i64) (Dl.one (Dc.int UU .i64))).en a)) = start61 a := by
  obtain ⟨x0, x1⟩ := a
  kernel_rfl
theorem snd61 (k : Nat) : Snd Try.prog UU 61 (W (Dl.cons (Dc.int UU .i64) (Dl.one (Dc.int UU .i64))) (f61 k) (Dc.int UU .i64)) := by
  refine snd_fn (F := F61) (fn := Try.f61) (body := bodyOf Try.f61) ⟨uu, tbl_ok trivial, mixed⟩ (by kernel_rfl) (by kernel_rfl) (by kernel_rfl) rfl rfl rfl (fun a => Nat.le_of_ble_eq_true rfl) ?_
  intro a r h
  refine ⟨3000, k, ?_⟩
  rw [en61]
  exact h
noncomputable def F75 : Fn TT (Int) := ⟨Try.prog, UU, tbl [], Try.f75.ntmps, Try.f75.results.toList, [3], true, annOf [(2, [0, 1, 7, 8])], finD (Dc.int UU .i64)⟩
inductive J75 where
  | j2 (x0 : (List Int)) (x1 : Int) (x2 : Int) (x3 : Int)
noncomputable def td75 : J75 → List Item
  | .j2 _ _ _ _ => fnd 2 (bodyOf Try.f75) []
noncomputable def em75 : J75 → St TT
  | .j2 x0 x1 x2 x3 => ⟨[(0, .row 3 x0), (1, .v (.int .i64 x1)), (7, .v (.int .i64 x2)), (8, .v (.int .i64 x3))], [], 0⟩
noncomputable def step75 (go : J75 → Option (Int)) : J75 → Option (Int)
  | .j2 x0 x1 x2 x3 => (cond (decide ((x3 : Int) < x2)) (cond (decide ((0 : Int) ≤ x3)) (cond (decide ((x3 : Int) < (((x0).length : Nat) : Int))) (cond ((x1 : Int) == (rd3 x0 x3)) (some x3) (go (.j2 x0 x1 x2 (w64 (x3 + 1))))) none) none) (some (-1)))
noncomputable def start75 (go : J75 → Option (Int)) : (List Int) × Int → Option (Int)
  | (x0, x1) => (go (.j2 x0 x1 (((x0).length : Nat) : Int) 0))
noncomputable def f75 (k : Nat) : (List Int) × Int → Option (Int) := start75 (run (step75) k)
theorem st75 (G : List Item → St TT → Option (Int)) (p : J75) : evFrom (F75) G 3000 (td75 p) (em75 p) = step75 (fun q => G (td75 q) (em75 q)) p := by
  cases p <;> kernel_rfl
theorem en75 (G : List Item → St TT → Option (Int)) (a : (List Int) × Int) : ev (F75) G 3000 [.code (bodyOf Try.f75)] (st0 ((Dl.cons (Dc.row UU 3) (Dl.one (Dc.int UU .i64))).en a)) = start75 (fun q => G (td75 q) (em75 q)) a := by
  obtain ⟨x0, x1⟩ := a
  kernel_rfl
theorem snd75 (k : Nat) : Snd Try.prog UU 75 (W (Dl.cons (Dc.row UU 3) (Dl.one (Dc.int UU .i64))) (f75 k) (Dc.int UU .i64)) := by
  refine snd_fn (F := F75) (fn := Try.f75) (body := bodyOf Try.f75) ⟨uu, tbl_ok trivial, mixed⟩ (by kernel_rfl) (by kernel_rfl) (by kernel_rfl) rfl rfl rfl (fun a => Nat.le_of_ble_eq_true rfl) ?_
  intro a r h
  refine ⟨3000, k, ?_⟩
  rw [en75, show (fun q => evJ (F75) 3000 k (td75 q) (em75 q)) = run (step75) k from funext fun q => evJ_run _ _ _ (st75) k q]
  exact h
noncomputable def F62 (g75 : (List Int) × Int → Option (Int)) : Fn TT (Bool) := ⟨Try.prog, UU, tbl [(75, W (Dl.cons (Dc.row UU 3) (Dl.one (Dc.int UU .i64))) g75 (Dc.int UU .i64))], Try.f62.ntmps, Try.f62.results.toList, [4], true, annOf [], finD (Dc.bool UU)⟩
noncomputable def start62 (g75 : (List Int) × Int → Option (Int)) : (List Int) × Int → Option (Bool)
  | (x0, x1) => (((g75 (x0, x1))).bind fun r0 => (some (decide ((r0 : Int) ≥ 0))))
noncomputable def f62 (k : Nat) : (List Int) × Int → Option (Bool) := start62 (f75 k)
theorem en62 (g75 : (List Int) × Int → Option (Int)) (G : List Item → St TT → Option (Bool)) (a : (List Int) × Int) : ev (F62 g75) G 3000 [.code (bodyOf Try.f62)] (st0 ((Dl.cons (Dc.row UU 3) (Dl.one (Dc.int UU .i64))).en a)) = start62 g75 a := by
  obtain ⟨x0, x1⟩ := a
  kernel_rfl
theorem snd62 (k : Nat) : Snd Try.prog UU 62 (W (Dl.cons (Dc.row UU 3) (Dl.one (Dc.int UU .i64))) (f62 k) (Dc.bool UU)) := by
  refine snd_fn (F := F62 (f75 k)) (fn := Try.f62) (body := bodyOf Try.f62) ⟨uu, tbl_ok ⟨snd75 k, trivial⟩, mixed⟩ (by kernel_rfl) (by kernel_rfl) (by kernel_rfl) rfl rfl rfl (fun a => Nat.le_of_ble_eq_true rfl) ?_
  intro a r h
  refine ⟨3000, k, ?_⟩
  rw [en62]
  exact h
noncomputable def F29 (g33 : Int × Int × Int → Option (Bool)) (g60 : S52 → Option (Bool)) (g61 : Int × Int → Option (Int)) (g62 : (List Int) × Int → Option (Bool)) : Fn TT (Bool) := ⟨Try.prog, UU, tbl [(33, W (Dl.cons (Dc.int UU .i64) (Dl.cons (Dc.int UU .i64) (Dl.one (Dc.int UU .i64)))) g33 (Dc.bool UU)), (60, W (Dl.one (Dc.agg uu 55)) g60 (Dc.bool UU)), (61, W (Dl.cons (Dc.int UU .i64) (Dl.one (Dc.int UU .i64))) g61 (Dc.int UU .i64)), (62, W (Dl.cons (Dc.row UU 3) (Dl.one (Dc.int UU .i64))) g62 (Dc.bool UU))], Try.f29.ntmps, Try.f29.results.toList, [4], true, annOf [(3, [1, 2, 3, 4, 5])], finD (Dc.bool UU)⟩
inductive J29 where
  | j3 (x0 : Int) (x1 : Int) (x2 : Int) (x3 : Int) (x4 : Int) (x5 : Int) (x6 : (List Int))
noncomputable def td29 : J29 → List Item
  | .j3 _ _ _ _ _ _ _ => fnd 3 (bodyOf Try.f29) []
noncomputable def em29 : J29 → St TT
  | .j3 x0 x1 x2 x3 x4 x5 x6 => ⟨[(1, .v (.int .i64 x0)), (2, .v (.int .i64 x1)), (3, .v (.int .i64 x2)), (4, .v (.int .i64 x3)), (5, .ptr 0 0)], [(0, .cells 55 [.v (.int .i64 x4), .v (.int .i64 x5), .row 3 x6])], 1⟩
noncomputable def step29 (g33 : Int × Int × Int → Option (Bool)) (g60 : S52 → Option (Bool)) (g61 : Int × Int → Option (Int)) (g62 : (List Int) × Int → Option (Bool)) (go : J29 → Option (Bool)) : J29 → Option (Bool)
  | .j3 x0 x1 x2 x3 x4 x5 x6 => (cond ((x4 : Int) == 0) (cond (((and_ Go.IntKind.i64 x3 1) : Int) == 0) (some true) (((g61 (x2, 0))).bind fun r5 => (((g61 (x2, 1))).bind fun r6 => (((g61 (x2, 2))).bind fun r7 => (some (((and_ Go.IntKind.i64 (or_ Go.IntKind.i64 (or_ Go.IntKind.i64 r5 r6) r7) 1) : Int) == 1)))))) (cond ((x4 : Int) == x0) (((g61 (x2, 0))).bind fun r8 => (some (((and_ Go.IntKind.i64 r8 x3) : Int) == x3))) (((g62 (x6, x1))).bind fun r9 => (cond r9 (((g61 (x2, 1))).bind fun r10 => (some (((and_ Go.IntKind.i64 r10 x3) : Int) == x3))) (((g61 (x2, 2))).bind fun r11 => (some (((and_ Go.IntKind.i64 r11 x3) : Int) == x3)))))))
noncomputable def start29 (g33 : Int × Int × Int → Option (Bool)) (g60 : S52 → Option (Bool)) (g61 : Int × Int → Option (Int)) (g62 : (List Int) × Int → Option (Bool)) (go : J29 → Option (Bool)) : S52 × Int × Int × Int × Int → Option (Bool)
  | (x0, x1, x2, x3, x4) => (((g60 (x0))).bind fun r0 => (cond (!r0) (some false) (((g33 (x1, (0, 9)))).bind fun r1 => (cond (!r1) (some false) (((g33 (x2, (0, 9)))).bind fun r2 => (cond (!r2) (some false) (((g33 (x3, (0, 511)))).bind fun r3 => (cond (!r3) (some false) (((g33 (x4, (1, 7)))).bind fun r4 => (cond (!r4) (some false) (go (.j3 x1 x2 x3 x4 (x0).f0 (x0).f1 (x0).f2))))))))))))
noncomputable def f29 (k : Nat) : S52 × Int × Int × Int × Int → Option (Bool) := start29 (f33 k) (f60 k) (f61 k) (f62 k) (run (step29 (f33 k) (f60 k) (f61 k) (f62 k)) k)
theorem st29 (g33 : Int × Int × Int → Option (Bool)) (g60 : S52 → Option (Bool)) (g61 : Int × Int → Option (Int)) (g62 : (List Int) × Int → Option (Bool)) (G : List Item → St TT → Option (Bool)) (p : J29) : evFrom (F29 g33 g60 g61 g62) G 3000 (td29 p) (em29 p) = step29 g33 g60 g61 g62 (fun q => G (td29 q) (em29 q)) p := by
  cases p <;> kernel_rfl
theorem en29 (g33 : Int × Int × Int → Option (Bool)) (g60 : S52 → Option (Bool)) (g61 : Int × Int → Option (Int)) (g62 : (List Int) × Int → Option (Bool)) (G : List Item → St TT → Option (Bool)) (a : S52 × Int × Int × Int × Int) : ev (F29 g33 g60 g61 g62) G 3000 [.code (bodyOf Try.f29)] (st0 ((Dl.cons (Dc.agg uu 55) (Dl.cons (Dc.int UU .i64) (Dl.cons (Dc.int UU .i64) (Dl.cons (Dc.int UU .i64) (Dl.one (Dc.int UU .i64)))))).en a)) = start29 g33 g60 g61 g62 (fun q => G (td29 q) (em29 q)) a := by
  obtain ⟨x0, x1, x2, x3, x4⟩ := a
  kernel_rfl
theorem snd29 (k : Nat) : Snd Try.prog UU 29 (W (Dl.cons (Dc.agg uu 55) (Dl.cons (Dc.int UU .i64) (Dl.cons (Dc.int UU .i64) (Dl.cons (Dc.int UU .i64) (Dl.one (Dc.int UU .i64)))))) (f29 k) (Dc.bool UU)) := by
  refine snd_fn (F := F29 (f33 k) (f60 k) (f61 k) (f62 k)) (fn := Try.f29) (body := bodyOf Try.f29) ⟨uu, tbl_ok ⟨snd33 k, snd60 k, snd61 k, snd62 k, trivial⟩, mixed⟩ (by kernel_rfl) (by kernel_rfl) (by kernel_rfl) rfl rfl rfl (fun a => Nat.le_of_ble_eq_true rfl) ?_
  intro a r h
  refine ⟨3000, k, ?_⟩
  rw [en29, show (fun q => evJ (F29 (f33 k) (f60 k) (f61 k) (f62 k)) 3000 k (td29 q) (em29 q)) = run (step29 (f33 k) (f60 k) (f61 k) (f62 k)) k from funext fun q => evJ_run _ _ _ (st29 (f33 k) (f60 k) (f61 k) (f62 k)) k q]
  exact h
noncomputable def F55 (g29 : S52 × Int × Int × Int × Int → Option (Bool)) : Fn TT (Bool) := ⟨Try.prog, UU, tbl [(29, W (Dl.cons (Dc.agg uu 55) (Dl.cons (Dc.int UU .i64) (Dl.cons (Dc.int UU .i64) (Dl.cons (Dc.int UU .i64) (Dl.one (Dc.int UU .i64)))))) g29 (Dc.bool UU))], Try.f55.ntmps, Try.f55.results.toList, [4], true, annOf [], finD (Dc.bool UU)⟩
noncomputable def start55 (g29 : S52 × Int × Int × Int × Int → Option (Bool)) : S34 × S52 × Int → Option (Bool)
  | (x0, x1, x2) => (((g29 ((x1), ((x0).f2, ((x0).f3, ((x0).f1, x2)))))).bind fun r0 => (some r0))
noncomputable def f55 (k : Nat) : S34 × S52 × Int → Option (Bool) := start55 (f29 k)
theorem en55 (g29 : S52 × Int × Int × Int × Int → Option (Bool)) (G : List Item → St TT → Option (Bool)) (a : S34 × S52 × Int) : ev (F55 g29) G 3000 [.code (bodyOf Try.f55)] (st0 ((Dl.cons (Dc.agg uu 34) (Dl.cons (Dc.agg uu 55) (Dl.one (Dc.int UU .i64)))).en a)) = start55 g29 a := by
  obtain ⟨x0, x1, x2⟩ := a
  kernel_rfl
theorem snd55 (k : Nat) : Snd Try.prog UU 55 (W (Dl.cons (Dc.agg uu 34) (Dl.cons (Dc.agg uu 55) (Dl.one (Dc.int UU .i64)))) (f55 k) (Dc.bool UU)) := by
  refine snd_fn (F := F55 (f29 k)) (fn := Try.f55) (body := bodyOf Try.f55) ⟨uu, tbl_ok ⟨snd29 k, trivial⟩, mixed⟩ (by kernel_rfl) (by kernel_rfl) (by kernel_rfl) rfl rfl rfl (fun a => Nat.le_of_ble_eq_true rfl) ?_
  intro a r h
  refine ⟨3000, k, ?_⟩
  rw [en55]
  exact h
noncomputable def F74 (g89 : ByteArray × ByteArray → Option (Int)) : Fn TT (Int) := ⟨Try.prog, UU, tbl [(89, W (Dl.cons (Dc.str UU) (Dl.one (Dc.str UU))) g89 (Dc.int UU .i64))], Try.f74.ntmps, Try.f74.results.toList, [3], true, annOf [], finD (Dc.int UU .i64)⟩
noncomputable def start74 (g89 : ByteArray × ByteArray → Option (Int)) : ByteArray × ByteArray → Option (Int)
  | (x0, x1) => (((g89 (x0, x1))).bind fun r0 => (some r0))
noncomputable def f74 (k : Nat) : ByteArray × ByteArray → Option (Int) := start74 (f89 k)
theorem en74 (g89 : ByteArray × ByteArray → Option (Int)) (G : List Item → St TT → Option (Int)) (a : ByteArray × ByteArray) : ev (F74 g89) G 3000 [.code (bodyOf Try.f74)] (st0 ((Dl.cons (Dc.str UU) (Dl.one (Dc.str UU))).en a)) = start74 g89 a := by
  obtain ⟨x0, x1⟩ := a
  kernel_rfl
theorem snd74 (k : Nat) : Snd Try.prog UU 74 (W (Dl.cons (Dc.str UU) (Dl.one (Dc.str UU))) (f74 k) (Dc.int UU .i64)) := by
  refine snd_fn (F := F74 (f89 k)) (fn := Try.f74) (body := bodyOf Try.f74) ⟨uu, tbl_ok ⟨snd89 k, trivial⟩, mixed⟩ (by kernel_rfl) (by kernel_rfl) (by kernel_rfl) rfl rfl rfl (fun a => Nat.le_of_ble_eq_true rfl) ?_
  intro a r h
  refine ⟨3000, k, ?_⟩
  rw [en74]
  exact h
noncomputable def F73 (g74 : ByteArray × ByteArray → Option (Int)) : Fn TT (Int) := ⟨Try.prog, UU, tbl [(74, W (Dl.cons (Dc.str UU) (Dl.one (Dc.str UU))) g74 (Dc.int UU .i64))], Try.f73.ntmps, Try.f73.results.toList, [3], true, annOf [], finD (Dc.int UU .i64)⟩
noncomputable def start73 (g74 : ByteArray × ByteArray → Option (Int)) : S47 × ByteArray → Option (Int)
  | (x0, x1) => (((g74 ((x0).f0, x1))).bind fun r0 => (some r0))
noncomputable def f73 (k : Nat) : S47 × ByteArray → Option (Int) := start73 (f74 k)
theorem en73 (g74 : ByteArray × ByteArray → Option (Int)) (G : List Item → St TT → Option (Int)) (a : S47 × ByteArray) : ev (F73 g74) G 3000 [.code (bodyOf Try.f73)] (st0 ((Dl.cons (Dc.agg uu 47) (Dl.one (Dc.str UU))).en a)) = start73 g74 a := by
  obtain ⟨x0, x1⟩ := a
  kernel_rfl
theorem snd73 (k : Nat) : Snd Try.prog UU 73 (W (Dl.cons (Dc.agg uu 47) (Dl.one (Dc.str UU))) (f73 k) (Dc.int UU .i64)) := by
  refine snd_fn (F := F73 (f74 k)) (fn := Try.f73) (body := bodyOf Try.f73) ⟨uu, tbl_ok ⟨snd74 k, trivial⟩, mixed⟩ (by kernel_rfl) (by kernel_rfl) (by kernel_rfl) rfl rfl rfl (fun a => Nat.le_of_ble_eq_true rfl) ?_
  intro a r h
  refine ⟨3000, k, ?_⟩
  rw [en73]
  exact h
noncomputable def F72 (g73 : S47 × ByteArray → Option (Int)) : Fn TT (Int × Bool) := ⟨Try.prog, UU, tbl [(73, W (Dl.cons (Dc.agg uu 47) (Dl.one (Dc.str UU))) g73 (Dc.int UU .i64))], Try.f72.ntmps, Try.f72.results.toList, [3, 4], true, annOf [(3, [0, 1, 2, 8, 9, 10])], finD (Dc.tup (Dl.cons (Dc.int UU .i64) (Dl.one (Dc.bool UU))))⟩
inductive J72 where
  | j3 (x0 : (List S47)) (x1 : ByteArray) (x2 : Int) (x3 : Int) (x4 : Int)
noncomputable def td72 : J72 → List Item
  | .j3 _ _ _ _ _ => fnd 3 (bodyOf Try.f72) []
noncomputable def em72 : J72 → St TT
  | .j3 x0 x1 x2 x3 x4 => ⟨[(0, .row 47 x0), (1, .v (.string x1)), (2, .v (.func (.func 73) #[] #[])), (8, .v (.int .i64 x2)), (9, .v (.int .i64 x3)), (10, .v (.int .i64 x4))], [], 0⟩
noncomputable def step72 (g73 : S47 × ByteArray → Option (Int)) (go : J72 → Option (Int × Bool)) : J72 → Option (Int × Bool)
  | .j3 x0 x1 x2 x3 x4 => (cond (decide ((x3 : Int) < x4)) (cond (decide ((0 : Int) ≤ (w64 (shr_ Go.IntKind.u64 (IntKind.wrap .u64 (w64 (x3 + x4))) 1)))) (cond (decide (((w64 (shr_ Go.IntKind.u64 (IntKind.wrap .u64 (w64 (x3 + x4))) 1)) : Int) < (((x0).length : Nat) : Int))) (((g73 (((rd47 x0 (w64 (shr_ Go.IntKind.u64 (IntKind.wrap .u64 (w64 (x3 + x4))) 1)))), x1))).bind fun r0 => (cond (decide ((r0 : Int) < 0)) (go (.j3 x0 x1 x2 (w64 ((w64 (shr_ Go.IntKind.u64 (IntKind.wrap .u64 (w64 (x3 + x4))) 1)) + 1)) x4)) (go (.j3 x0 x1 x2 x3 (w64 (shr_ Go.IntKind.u64 (IntKind.wrap .u64 (w64 (x3 + x4))) 1)))))) none) none) (cond (decide ((x3 : Int) < x2)) (cond (decide ((0 : Int) ≤ x3)) (cond (decide ((x3 : Int) < (((x0).length : Nat) : Int))) (((g73 (((rd47 x0 x3)), x1))).bind fun r1 => (some (x3, ((r1 : Int) == 0)))) none) none) (some (x3, false))))
noncomputable def start72 (g73 : S47 × ByteArray → Option (Int)) (go : J72 → Option (Int × Bool)) : (List S47) × ByteArray × Unit → Option (Int × Bool)
  | (x0, x1, x2) => (go (.j3 x0 x1 (((x0).length : Nat) : Int) 0 (((x0).length : Nat) : Int)))
noncomputable def f72 (k : Nat) : (List S47) × ByteArray × Unit → Option (Int × Bool) := start72 (f73 k) (run (step72 (f73 k)) k)
theorem st72 (g73 : S47 × ByteArray → Option (Int)) (G : List Item → St TT → Option (Int × Bool)) (p : J72) : evFrom (F72 g73) G 3000 (td72 p) (em72 p) = step72 g73 (fun q => G (td72 q) (em72 q)) p := by
  cases p <;> kernel_rfl
theorem en72 (g73 : S47 × ByteArray → Option (Int)) (G : List Item → St TT → Option (Int × Bool)) (a : (List S47) × ByteArray × Unit) : ev (F72 g73) G 3000 [.code (bodyOf Try.f72)] (st0 ((Dl.cons (Dc.row UU 47) (Dl.cons (Dc.str UU) (Dl.one (Dc.fn UU 73)))).en a)) = start72 g73 (fun q => G (td72 q) (em72 q)) a := by
  obtain ⟨x0, x1, x2⟩ := a
  kernel_rfl
theorem snd72 (k : Nat) : Snd Try.prog UU 72 (W (Dl.cons (Dc.row UU 47) (Dl.cons (Dc.str UU) (Dl.one (Dc.fn UU 73)))) (f72 k) (Dc.tup (Dl.cons (Dc.int UU .i64) (Dl.one (Dc.bool UU))))) := by
  refine snd_fn (F := F72 (f73 k)) (fn := Try.f72) (body := bodyOf Try.f72) ⟨uu, tbl_ok ⟨snd73 k, trivial⟩, mixed⟩ (by kernel_rfl) (by kernel_rfl) (by kernel_rfl) rfl rfl rfl (fun a => Nat.le_of_ble_eq_true rfl) ?_
  intro a r h
  refine ⟨3000, k, ?_⟩
  rw [en72, show (fun q => evJ (F72 (f73 k)) 3000 k (td72 q) (em72 q)) = run (step72 (f73 k)) k from funext fun q => evJ_run _ _ _ (st72 (f73 k)) k q]
  exact h
noncomputable def F56 (g72 : (List S47) × ByteArray × Unit → Option (Int × Bool)) (g73 : S47 × ByteArray → Option (Int)) : Fn TT (Int × Bool) := ⟨Try.prog, UU, tbl [(72, W (Dl.cons (Dc.row UU 47) (Dl.cons (Dc.str UU) (Dl.one (Dc.fn UU 73)))) g72 (Dc.tup (Dl.cons (Dc.int UU .i64) (Dl.one (Dc.bool UU))))), (73, W (Dl.cons (Dc.agg uu 47) (Dl.one (Dc.str UU))) g73 (Dc.int UU .i64))], Try.f56.ntmps, Try.f56.results.toList, [3, 4], true, annOf [], finD (Dc.tup (Dl.cons (Dc.int UU .i64) (Dl.one (Dc.bool UU))))⟩
noncomputable def start56 (g72 : (List S47) × ByteArray × Unit → Option (Int × Bool)) (g73 : S47 × ByteArray → Option (Int)) : S34 × ByteArray → Option (Int × Bool)
  | (x0, x1) => (((g72 ((x0).f8, (x1, ())))).bind fun r0 => (some ((r0).fst, (r0).snd)))
noncomputable def f56 (k : Nat) : S34 × ByteArray → Option (Int × Bool) := start56 (f72 k) (f73 k)
theorem en56 (g72 : (List S47) × ByteArray × Unit → Option (Int × Bool)) (g73 : S47 × ByteArray → Option (Int)) (G : List Item → St TT → Option (Int × Bool)) (a : S34 × ByteArray) : ev (F56 g72 g73) G 3000 [.code (bodyOf Try.f56)] (st0 ((Dl.cons (Dc.agg uu 34) (Dl.one (Dc.str UU))).en a)) = start56 g72 g73 a := by
  obtain ⟨x0, x1⟩ := a
  kernel_rfl
theorem snd56 (k : Nat) : Snd Try.prog UU 56 (W (Dl.cons (Dc.agg uu 34) (Dl.one (Dc.str UU))) (f56 k) (Dc.tup (Dl.cons (Dc.int UU .i64) (Dl.one (Dc.bool UU))))) := by
  refine snd_fn (F := F56 (f72 k) (f73 k)) (fn := Try.f56) (body := bodyOf Try.f56) ⟨uu, tbl_ok ⟨snd72 k, snd73 k, trivial⟩, mixed⟩ (by kernel_rfl) (by kernel_rfl) (by kernel_rfl) rfl rfl rfl (fun a => Nat.le_of_ble_eq_true rfl) ?_
  intro a r h
  refine ⟨3000, k, ?_⟩
  rw [en56]
  exact h
noncomputable def F26 (g38 : ByteArray → Option (Bool)) (g54 : S27 × S52 × (List Int) → Option (Bool)) (g55 : S34 × S52 × Int → Option (Bool)) (g56 : S34 × ByteArray → Option (Int × Bool)) : Fn TT (Int × Int) := ⟨Try.prog, UU, tbl [(38, W (Dl.one (Dc.str UU)) g38 (Dc.bool UU)), (54, W (Dl.cons (Dc.agg uu 27) (Dl.cons (Dc.agg uu 55) (Dl.one (Dc.row UU 3)))) g54 (Dc.bool UU)), (55, W (Dl.cons (Dc.agg uu 34) (Dl.cons (Dc.agg uu 55) (Dl.one (Dc.int UU .i64)))) g55 (Dc.bool UU)), (56, W (Dl.cons (Dc.agg uu 34) (Dl.one (Dc.str UU))) g56 (Dc.tup (Dl.cons (Dc.int UU .i64) (Dl.one (Dc.bool UU)))))], Try.f26.ntmps, Try.f26.results.toList, [3, 3], true, annOf [(3, [2, 3, 4, 5])], finD (Dc.tup (Dl.cons (Dc.int UU .i64) (Dl.one (Dc.int UU .i64))))⟩
inductive J26 where
  | j3 (x0 : Int) (x1 : ByteArray) (x2 : (List S34)) (x3 : Int) (x4 : Int) (x5 : (List Int))
noncomputable def td26 : J26 → List Item
  | .j3 _ _ _ _ _ _ => fnd 3 (bodyOf Try.f26) []
noncomputable def em26 : J26 → St TT
  | .j3 x0 x1 x2 x3 x4 x5 => ⟨[(2, .v (.int .i64 x0)), (3, .v (.string x1)), (4, .ptr 0 0), (5, .ptr 1 0)], [(0, .cells 27 [.row 34 x2]), (1, .cells 55 [.v (.int .i64 x3), .v (.int .i64 x4), .row 3 x5])], 2⟩
noncomputable def step26 (g38 : ByteArray → Option (Bool)) (g54 : S27 × S52 × (List Int) → Option (Bool)) (g55 : S34 × S52 × Int → Option (Bool)) (g56 : S34 × ByteArray → Option (Int × Bool)) (go : J26 → Option (Int × Int)) : J26 → Option (Int × Int)
  | .j3 x0 x1 x2 x3 x4 x5 => (cond (decide ((0 : Int) ≤ x0)) (cond (decide ((x0 : Int) < (((x2).length : Nat) : Int))) (cond ((((rd34 x2 x0)).f0 : Int) != 2) (some ((-1), 4)) (((g55 (((rd34 x2 x0)), ((⟨x3, x4, x5⟩ : S52), 1)))).bind fun r2 => (cond (!r2) (some ((-1), 5)) (((g56 (((rd34 x2 x0)), x1))).bind fun r3 => (cond (!(r3).snd) (some ((-1), 2)) (cond (decide ((0 : Int) ≤ (r3).fst)) (cond (decide (((r3).fst : Int) < (((((rd34 x2 x0)).f8).length : Nat) : Int))) (some (((rd47 ((rd34 x2 x0)).f8 (r3).fst)).f1, 0)) none) none)))))) none) none)
noncomputable def start26 (g38 : ByteArray → Option (Bool)) (g54 : S27 × S52 × (List Int) → Option (Bool)) (g55 : S34 × S52 × Int → Option (Bool)) (g56 : S34 × ByteArray → Option (Int × Bool)) (go : J26 → Option (Int × Int)) : S27 × S52 × Int × ByteArray → Option (Int × Int)
  | (x0, x1, x2, x3) => (((g54 ((x0), ((x1), [x2])))).bind fun r0 => (cond (!r0) (some ((-1), 1)) (((g38 x3)).bind fun r1 => (cond (!r1) (some ((-1), 1)) (go (.j3 x2 x3 (x0).f0 (x1).f0 (x1).f1 (x1).f2))))))
noncomputable def f26 (k : Nat) : S27 × S52 × Int × ByteArray → Option (Int × Int) := start26 (f38 k) (f54 k) (f55 k) (f56 k) (run (step26 (f38 k) (f54 k) (f55 k) (f56 k)) k)
theorem st26 (g38 : ByteArray → Option (Bool)) (g54 : S27 × S52 × (List Int) → Option (Bool)) (g55 : S34 × S52 × Int → Option (Bool)) (g56 : S34 × ByteArray → Option (Int × Bool)) (G : List Item → St TT → Option (Int × Int)) (p : J26) : evFrom (F26 g38 g54 g55 g56) G 3000 (td26 p) (em26 p) = step26 g38 g54 g55 g56 (fun q => G (td26 q) (em26 q)) p := by
  cases p <;> kernel_rfl
theorem en26 (g38 : ByteArray → Option (Bool)) (g54 : S27 × S52 × (List Int) → Option (Bool)) (g55 : S34 × S52 × Int → Option (Bool)) (g56 : S34 × ByteArray → Option (Int × Bool)) (G : List Item → St TT → Option (Int × Int)) (a : S27 × S52 × Int × ByteArray) : ev (F26 g38 g54 g55 g56) G 3000 [.code (bodyOf Try.f26)] (st0 ((Dl.cons (Dc.agg uu 27) (Dl.cons (Dc.agg uu 55) (Dl.cons (Dc.int UU .i64) (Dl.one (Dc.str UU))))).en a)) = start26 g38 g54 g55 g56 (fun q => G (td26 q) (em26 q)) a := by
  obtain ⟨x0, x1, x2, x3⟩ := a
  kernel_rfl
theorem snd26 (k : Nat) : Snd Try.prog UU 26 (W (Dl.cons (Dc.agg uu 27) (Dl.cons (Dc.agg uu 55) (Dl.cons (Dc.int UU .i64) (Dl.one (Dc.str UU))))) (f26 k) (Dc.tup (Dl.cons (Dc.int UU .i64) (Dl.one (Dc.int UU .i64))))) := by
  refine snd_fn (F := F26 (f38 k) (f54 k) (f55 k) (f56 k)) (fn := Try.f26) (body := bodyOf Try.f26) ⟨uu, tbl_ok ⟨snd38 k, snd54 k, snd55 k, snd56 k, trivial⟩, mixed⟩ (by kernel_rfl) (by kernel_rfl) (by kernel_rfl) rfl rfl rfl (fun a => Nat.le_of_ble_eq_true rfl) ?_
  intro a r h
  refine ⟨3000, k, ?_⟩
  rw [en26, show (fun q => evJ (F26 (f38 k) (f54 k) (f55 k) (f56 k)) 3000 k (td26 q) (em26 q)) = run (step26 (f38 k) (f54 k) (f55 k) (f56 k)) k from funext fun q => evJ_run _ _ _ (st26 (f38 k) (f54 k) (f55 k) (f56 k)) k q]
  exact h
noncomputable def F57 : Fn TT (Bool) := ⟨Try.prog, UU, tbl [], Try.f57.ntmps, Try.f57.results.toList, [4], true, annOf [(4, [0, 1, 5])], finD (Dc.bool UU)⟩
inductive J57 where
  | j4 (x0 : (List Int)) (x1 : (List Int)) (x2 : Int)
noncomputable def td57 : J57 → List Item
  | .j4 _ _ _ => fnd 4 (bodyOf Try.f57) []
noncomputable def em57 : J57 → St TT
  | .j4 x0 x1 x2 => ⟨[(0, .row 3 x0), (1, .row 3 x1), (5, .v (.int .i64 x2))], [], 0⟩
noncomputable def step57 (go : J57 → Option (Bool)) : J57 → Option (Bool)
  | .j4 x0 x1 x2 => (cond (decide ((x2 : Int) < (((x0).length : Nat) : Int))) (cond (decide ((0 : Int) ≤ x2)) (cond (decide ((x2 : Int) < (((x0).length : Nat) : Int))) (cond (decide ((0 : Int) ≤ x2)) (cond (decide ((x2 : Int) < (((x1).length : Nat) : Int))) (cond (((rd3 x0 x2) : Int) != (rd3 x1 x2)) (some false) (go (.j4 x0 x1 (w64 (x2 + 1))))) none) none) none) none) (some true))
noncomputable def start57 (go : J57 → Option (Bool)) : (List Int) × (List Int) → Option (Bool)
  | (x0, x1) => (cond (((((x0).length : Nat) : Int) : Int) != (((x1).length : Nat) : Int)) (some false) (go (.j4 x0 x1 0)))
noncomputable def f57 (k : Nat) : (List Int) × (List Int) → Option (Bool) := start57 (run (step57) k)
theorem st57 (G : List Item → St TT → Option (Bool)) (p : J57) : evFrom (F57) G 3000 (td57 p) (em57 p) = step57 (fun q => G (td57 q) (em57 q)) p := by
  cases p <;> kernel_rfl
theorem en57 (G : List Item → St TT → Option (Bool)) (a : (List Int) × (List Int)) : ev (F57) G 3000 [.code (bodyOf Try.f57)] (st0 ((Dl.cons (Dc.row UU 3) (Dl.one (Dc.row UU 3))).en a)) = start57 (fun q => G (td57 q) (em57 q)) a := by
  obtain ⟨x0, x1⟩ := a
  kernel_rfl
theorem snd57 (k : Nat) : Snd Try.prog UU 57 (W (Dl.cons (Dc.row UU 3) (Dl.one (Dc.row UU 3))) (f57 k) (Dc.bool UU)) := by
  refine snd_fn (F := F57) (fn := Try.f57) (body := bodyOf Try.f57) ⟨uu, tbl_ok trivial, mixed⟩ (by kernel_rfl) (by kernel_rfl) (by kernel_rfl) rfl rfl rfl (fun a => Nat.le_of_ble_eq_true rfl) ?_
  intro a r h
  refine ⟨3000, k, ?_⟩
  rw [en57, show (fun q => evJ (F57) 3000 k (td57 q) (em57 q)) = run (step57) k from funext fun q => evJ_run _ _ _ (st57) k q]
  exact h
noncomputable def F27 (g57 : (List Int) × (List Int) → Option (Bool)) : Fn TT (Bool) := ⟨Try.prog, UU, tbl [(57, W (Dl.cons (Dc.row UU 3) (Dl.one (Dc.row UU 3))) g57 (Dc.bool UU))], Try.f27.ntmps, Try.f27.results.toList, [4], true, annOf [], finD (Dc.bool UU)⟩
noncomputable def start27 (g57 : (List Int) × (List Int) → Option (Bool)) : S52 × S52 → Option (Bool)
  | (x0, x1) => (cond (((x0).f0 : Int) != (x1).f0) (some false) (cond (((x0).f1 : Int) != (x1).f1) (some false) (((g57 ((x0).f2, (x1).f2))).bind fun r0 => (cond (!r0) (some false) (some true)))))
noncomputable def f27 (k : Nat) : S52 × S52 → Option (Bool) := start27 (f57 k)
theorem en27 (g57 : (List Int) × (List Int) → Option (Bool)) (G : List Item → St TT → Option (Bool)) (a : S52 × S52) : ev (F27 g57) G 3000 [.code (bodyOf Try.f27)] (st0 ((Dl.cons (Dc.agg uu 55) (Dl.one (Dc.agg uu 55))).en a)) = start27 g57 a := by
  obtain ⟨x0, x1⟩ := a
  kernel_rfl
theorem snd27 (k : Nat) : Snd Try.prog UU 27 (W (Dl.cons (Dc.agg uu 55) (Dl.one (Dc.agg uu 55))) (f27 k) (Dc.bool UU)) := by
  refine snd_fn (F := F27 (f57 k)) (fn := Try.f27) (body := bodyOf Try.f27) ⟨uu, tbl_ok ⟨snd57 k, trivial⟩, mixed⟩ (by kernel_rfl) (by kernel_rfl) (by kernel_rfl) rfl rfl rfl (fun a => Nat.le_of_ble_eq_true rfl) ?_
  intro a r h
  refine ⟨3000, k, ?_⟩
  rw [en27]
  exact h
noncomputable def F8 (g15 : S27 × Int → Option (Int)) (g17 : S27 → Option (S27)) (g18 : S27 × S27 → Option (Bool)) (g23 : S52 × Int → Option (Int)) (g24 : S27 × S52 × Int × ByteArray → Option (Int × Int)) (g25 : S52 → Option (S52)) (g26 : S27 × S52 × Int × ByteArray → Option (Int × Int)) (g27 : S52 × S52 → Option (Bool)) : Fn TT (Bool) := ⟨Try.prog, UU, tbl [(15, W (Dl.cons (Dc.agg uu 38) (Dl.one (Dc.int UU .i64))) g15 (Dc.int UU .i64)), (17, W (Dl.one (Dc.agg uu 38)) g17 (Dc.agg uu 27)), (18, W (Dl.cons (Dc.agg uu 27) (Dl.one (Dc.agg uu 27))) g18 (Dc.bool UU)), (23, W (Dl.cons (Dc.agg uu 52) (Dl.one (Dc.int UU .i64))) g23 (Dc.int UU .i64)), (24, W (Dl.cons (Dc.agg uu 27) (Dl.cons (Dc.agg uu 55) (Dl.cons (Dc.int UU .i64) (Dl.one (Dc.str UU))))) g24 (Dc.tup (Dl.cons (Dc.int UU .i64) (Dl.one (Dc.int UU .i64))))), (25, W (Dl.one (Dc.agg uu 52)) g25 (Dc.agg uu 55)), (26, W (Dl.cons (Dc.agg uu 27) (Dl.cons (Dc.agg uu 55) (Dl.cons (Dc.int UU .i64) (Dl.one (Dc.str UU))))) g26 (Dc.tup (Dl.cons (Dc.int UU .i64) (Dl.one (Dc.int UU .i64))))), (27, W (Dl.cons (Dc.agg uu 55) (Dl.one (Dc.agg uu 55))) g27 (Dc.bool UU))], Try.f8.ntmps, Try.f8.results.toList, [4], true, annOf [(16, [4, 5, 12, 13])], finD (Dc.bool UU)⟩
inductive J8 where
  | j16 (x0 : (List S34)) (x1 : Int) (x2 : Int) (x3 : (List Int)) (x4 : (List S34)) (x5 : Int) (x6 : Int) (x7 : (List Int))
noncomputable def td8 : J8 → List Item
  | .j16 _ _ _ _ _ _ _ _ => fnd 16 (bodyOf Try.f8) []
noncomputable def em8 : J8 → St TT
  | .j16 x0 x1 x2 x3 x4 x5 x6 x7 => ⟨[(4, .ptr 0 0), (5, .ptr 1 0), (12, .ptr 2 0), (13, .ptr 3 0)], [(0, .cells 38 [.row 100 x0]), (1, .cells 52 [.v (.int .i64 x1), .v (.int .i64 x2), .row 3 x3]), (2, .cells 27 [.row 34 x4]), (3, .cells 55 [.v (.int .i64 x5), .v (.int .i64 x6), .row 3 x7])], 4⟩
noncomputable def step8 (g15 : S27 × Int → Option (Int)) (g17 : S27 → Option (S27)) (g18 : S27 × S27 → Option (Bool)) (g23 : S52 × Int → Option (Int)) (g24 : S27 × S52 × Int × ByteArray → Option (Int × Int)) (g25 : S52 → Option (S52)) (g26 : S27 × S52 × Int × ByteArray → Option (Int × Int)) (g27 : S52 × S52 → Option (Bool)) (go : J8 → Option (Bool)) : J8 → Option (Bool)
  | .j16 x0 x1 x2 x3 x4 x5 x6 x7 => (((g17 (⟨x0⟩ : S27))).bind fun r8 => (((g18 ((⟨x4⟩ : S27), (r8)))).bind fun r9 => (cond (!r9) (some false) (((g25 (⟨x1, x2, x3⟩ : S52))).bind fun r10 => (((g27 ((⟨x5, x6, x7⟩ : S52), (r10)))).bind fun r11 => (cond (!r11) (some false) (some true)))))))
noncomputable def start8 (g15 : S27 × Int → Option (Int)) (g17 : S27 → Option (S27)) (g18 : S27 × S27 → Option (Bool)) (g23 : S52 × Int → Option (Int)) (g24 : S27 × S52 × Int × ByteArray → Option (Int × Int)) (g25 : S52 → Option (S52)) (g26 : S27 × S52 × Int × ByteArray → Option (Int × Int)) (g27 : S52 × S52 → Option (Bool)) (go : J8 → Option (Bool)) : S27 × S52 × Int × ByteArray → Option (Bool)
  | (x0, x1, x2, x3) => (cond (decide (((((x3).size : Nat) : Int) : Int) > 1048576)) (some true) (((g15 ((x0), 1048576))).bind fun r0 => (cond (decide ((r0 : Int) < 0)) (some true) (((g23 ((x1), r0))).bind fun r1 => (cond (decide ((r1 : Int) < 0)) (some true) (((g17 (x0))).bind fun r2 => (((g25 (x1))).bind fun r3 => (((g24 ((r2), ((r3), (x2, x3))))).bind fun r4 => (((g17 (x0))).bind fun r5 => (((g25 (x1))).bind fun r6 => (((g26 ((r5), ((r6), (x2, x3))))).bind fun r7 => (cond (((r7).fst : Int) != (r4).fst) (some false) (cond (((r7).snd : Int) != (r4).snd) (some false) (go (.j16 (x0).f0 (x1).f0 (x1).f1 (x1).f2 (r5).f0 (r6).f0 (r6).f1 (r6).f2)))))))))))))))
noncomputable def f8 (k : Nat) : S27 × S52 × Int × ByteArray → Option (Bool) := start8 (f15 k) (f17 k) (f18 k) (f23 k) (f24 k) (f25 k) (f26 k) (f27 k) (run (step8 (f15 k) (f17 k) (f18 k) (f23 k) (f24 k) (f25 k) (f26 k) (f27 k)) k)
theorem st8 (g15 : S27 × Int → Option (Int)) (g17 : S27 → Option (S27)) (g18 : S27 × S27 → Option (Bool)) (g23 : S52 × Int → Option (Int)) (g24 : S27 × S52 × Int × ByteArray → Option (Int × Int)) (g25 : S52 → Option (S52)) (g26 : S27 × S52 × Int × ByteArray → Option (Int × Int)) (g27 : S52 × S52 → Option (Bool)) (G : List Item → St TT → Option (Bool)) (p : J8) : evFrom (F8 g15 g17 g18 g23 g24 g25 g26 g27) G 3000 (td8 p) (em8 p) = step8 g15 g17 g18 g23 g24 g25 g26 g27 (fun q => G (td8 q) (em8 q)) p := by
  cases p <;> kernel_rfl
theorem en8 (g15 : S27 × Int → Option (Int)) (g17 : S27 → Option (S27)) (g18 : S27 × S27 → Option (Bool)) (g23 : S52 × Int → Option (Int)) (g24 : S27 × S52 × Int × ByteArray → Option (Int × Int)) (g25 : S52 → Option (S52)) (g26 : S27 × S52 × Int × ByteArray → Option (Int × Int)) (g27 : S52 × S52 → Option (Bool)) (G : List Item → St TT → Option (Bool)) (a : S27 × S52 × Int × ByteArray) : ev (F8 g15 g17 g18 g23 g24 g25 g26 g27) G 3000 [.code (bodyOf Try.f8)] (st0 ((Dl.cons (Dc.agg uu 38) (Dl.cons (Dc.agg uu 52) (Dl.cons (Dc.int UU .i64) (Dl.one (Dc.str UU))))).en a)) = start8 g15 g17 g18 g23 g24 g25 g26 g27 (fun q => G (td8 q) (em8 q)) a := by
  obtain ⟨x0, x1, x2, x3⟩ := a
  kernel_rfl
theorem snd8 (k : Nat) : Snd Try.prog UU 8 (W (Dl.cons (Dc.agg uu 38) (Dl.cons (Dc.agg uu 52) (Dl.cons (Dc.int UU .i64) (Dl.one (Dc.str UU))))) (f8 k) (Dc.bool UU)) := by
  refine snd_fn (F := F8 (f15 k) (f17 k) (f18 k) (f23 k) (f24 k) (f25 k) (f26 k) (f27 k)) (fn := Try.f8) (body := bodyOf Try.f8) ⟨uu, tbl_ok ⟨snd15 k, snd17 k, snd18 k, snd23 k, snd24 k, snd25 k, snd26 k, snd27 k, trivial⟩, mixed⟩ (by kernel_rfl) (by kernel_rfl) (by kernel_rfl) rfl rfl rfl (fun a => Nat.le_of_ble_eq_true rfl) ?_
  intro a r h
  refine ⟨3000, k, ?_⟩
  rw [en8, show (fun q => evJ (F8 (f15 k) (f17 k) (f18 k) (f23 k) (f24 k) (f25 k) (f26 k) (f27 k)) 3000 k (td8 q) (em8 q)) = run (step8 (f15 k) (f17 k) (f18 k) (f23 k) (f24 k) (f25 k) (f26 k) (f27 k)) k from funext fun q => evJ_run _ _ _ (st8 (f15 k) (f17 k) (f18 k) (f23 k) (f24 k) (f25 k) (f26 k) (f27 k)) k q]
  exact h
end Go.Sx
