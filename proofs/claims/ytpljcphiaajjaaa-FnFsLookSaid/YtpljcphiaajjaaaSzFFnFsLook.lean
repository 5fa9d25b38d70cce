/- What the functions that FnFsLook reaches compute, and that they do. No condition. -/
import Derived.Test.YtpljcphiaajjaaaSzU
import Derived.Test.YtpljcphiaajjaaaSzX38
import Derived.Test.YtpljcphiaajjaaaSzX89
set_option linter.unusedVariables false
set_option linter.unusedSimpArgs false
namespace Go.Sx
open Go.RowKit Go.Proofs
noncomputable def F35 (E : Bool) : Fn TT (Bool) := ⟨Try.prog, (UU E), tbl [], Try.f35.ntmps, Try.f35.results.toList, [4], true, 0, annOf [], finD (Dc.bool (UU E))⟩
noncomputable def start35 : Int × Int × Int → Option (Bool)
  | (x0, x1, x2) => (cond (decide ((x0 : Int) ≥ x1)) (some (decide ((x0 : Int) ≤ x2))) (some false))
noncomputable def f35 (k : Nat) : Int × Int × Int → Option (Bool) := start35
theorem en35 (E : Bool) (G : List Item → St TT → Option (Bool)) (a : Int × Int × Int) : ev (F35 E) G 3000 [.code (bodyOf Try.f35)] (st0 ((Dl.cons (Dc.int (UU E) .i64) (Dl.cons (Dc.int (UU E) .i64) (Dl.one (Dc.int (UU E) .i64)))).en a)) = start35 a := by
  obtain ⟨x0, x1, x2⟩ := a
  kernel_rfl
theorem snd35 (E : Bool) (k : Nat) : Snd Try.prog (UU E) 35 (W (Dl.cons (Dc.int (UU E) .i64) (Dl.cons (Dc.int (UU E) .i64) (Dl.one (Dc.int (UU E) .i64)))) (f35 k) (Dc.bool (UU E))) := by
  refine snd_fn (F := F35 E) (fn := Try.f35) (body := bodyOf Try.f35) ⟨(uu E), tbl_ok trivial, mixed⟩ rfl rfl (by kernel_rfl) (by kernel_rfl) (by kernel_rfl) rfl rfl rfl (fun a => Nat.le_of_ble_eq_true rfl) ?_
  intro a r h
  refine ⟨3000, k, ?_⟩
  rw [en35]
  exact h
noncomputable def F34 (E : Bool) (g35 : Int × Int × Int → Option (Bool)) : Fn TT (Bool) := ⟨Try.prog, (UU E), tbl [(35, .plain (W (Dl.cons (Dc.int (UU E) .i64) (Dl.cons (Dc.int (UU E) .i64) (Dl.one (Dc.int (UU E) .i64)))) g35 (Dc.bool (UU E))))], Try.f34.ntmps, Try.f34.results.toList, [4], true, 0, annOf [], finD (Dc.bool (UU E))⟩
noncomputable def start34 (g35 : Int × Int × Int → Option (Bool)) : Int → Option (Bool)
  | x0 => (((g35 (x0, (0, 9)))).bind fun r0 => (some r0))
noncomputable def f34 (k : Nat) : Int → Option (Bool) := start34 (f35 k)
theorem en34 (E : Bool) (g35 : Int × Int × Int → Option (Bool)) (G : List Item → St TT → Option (Bool)) (a : Int) : ev (F34 E g35) G 3000 [.code (bodyOf Try.f34)] (st0 ((Dl.one (Dc.int (UU E) .i64)).en a)) = start34 g35 a := by
  kernel_rfl
theorem snd34 (E : Bool) (k : Nat) : Snd Try.prog (UU E) 34 (W (Dl.one (Dc.int (UU E) .i64)) (f34 k) (Dc.bool (UU E))) := by
  refine snd_fn (F := F34 E (f35 k)) (fn := Try.f34) (body := bodyOf Try.f34) ⟨(uu E), tbl_ok ⟨snd35 E k, trivial⟩, mixed⟩ rfl rfl (by kernel_rfl) (by kernel_rfl) (by kernel_rfl) rfl rfl rfl (fun a => Nat.le_of_ble_eq_true rfl) ?_
  intro a r h
  refine ⟨3000, k, ?_⟩
  rw [en34]
  exact h
noncomputable def F51 (E : Bool) (g35 : Int × Int × Int → Option (Bool)) : Fn TT (Bool) := ⟨Try.prog, (UU E), tbl [(35, .plain (W (Dl.cons (Dc.int (UU E) .i64) (Dl.cons (Dc.int (UU E) .i64) (Dl.one (Dc.int (UU E) .i64)))) g35 (Dc.bool (UU E))))], Try.f51.ntmps, Try.f51.results.toList, [4], true, 0, annOf [(2, [0, 3]), (3, [0, 3])], finD (Dc.bool (UU E))⟩
inductive J51 where
  | j2 (x0 : ByteArray) (x1 : Int)
  | j3 (x0 : ByteArray) (x1 : Int)
noncomputable def td51 : J51 → List Item
  | .j2 _ _ => fnd 2 (bodyOf Try.f51) []
  | .j3 _ _ => fnd 3 (bodyOf Try.f51) []
noncomputable def em51 : J51 → St TT
  | .j2 x0 x1 => ⟨[(0, .v (.string x0)), (3, .v (.int .i64 x1))], [], 0⟩
  | .j3 x0 x1 => ⟨[(0, .v (.string x0)), (3, .v (.int .i64 x1))], [], 0⟩
noncomputable def step51 (g35 : Int × Int × Int → Option (Bool)) (go : J51 → Option (Bool)) : J51 → Option (Bool)
  | .j2 x0 x1 => (cond (decide ((x1 : Int) < (((x0).size : Nat) : Int))) (cond (decide ((0 : Int) ≤ x1)) (cond (decide ((x1 : Int) < (((x0).size : Nat) : Int))) (cond (decide (((bt x0 x1) : Int) < 97)) (some false) (cond (decide ((0 : Int) ≤ x1)) (cond (decide ((x1 : Int) < (((x0).size : Nat) : Int))) (cond (decide (((bt x0 x1) : Int) > 122)) (some false) (go (.j3 x0 x1))) none) none)) none) none) (((g35 ((((x0).size : Nat) : Int), (1, 3)))).bind fun r0 => (some r0)))
  | .j3 x0 x1 => (go (.j2 x0 (w64 (x1 + 1))))
noncomputable def start51 (g35 : Int × Int × Int → Option (Bool)) (go : J51 → Option (Bool)) : ByteArray → Option (Bool)
  | x0 => (go (.j2 x0 0))
noncomputable def f51 (k : Nat) : ByteArray → Option (Bool) := start51 (f35 k) (run (step51 (f35 k)) k)
theorem st51 (E : Bool) (g35 : Int × Int × Int → Option (Bool)) (G : List Item → St TT → Option (Bool)) (p : J51) : evFrom (F51 E g35) G 3000 (td51 p) (em51 p) = step51 g35 (fun q => G (td51 q) (em51 q)) p := by
  cases p <;> kernel_rfl
theorem en51 (E : Bool) (g35 : Int × Int × Int → Option (Bool)) (G : List Item → St TT → Option (Bool)) (a : ByteArray) : ev (F51 E g35) G 3000 [.code (bodyOf Try.f51)] (st0 ((Dl.one (Dc.str (UU E))).en a)) = start51 g35 (fun q => G (td51 q) (em51 q)) a := by
  kernel_rfl
theorem snd51 (E : Bool) (k : Nat) : Snd Try.prog (UU E) 51 (W (Dl.one (Dc.str (UU E))) (f51 k) (Dc.bool (UU E))) := by
  refine snd_fn (F := F51 E (f35 k)) (fn := Try.f51) (body := bodyOf Try.f51) ⟨(uu E), tbl_ok ⟨snd35 E k, trivial⟩, mixed⟩ rfl rfl (by kernel_rfl) (by kernel_rfl) (by kernel_rfl) rfl rfl rfl (fun a => Nat.le_of_ble_eq_true rfl) ?_
  intro a r h
  refine ⟨3000, k, ?_⟩
  rw [en51]
  rw [show (fun q => evJ (F51 E (f35 k)) 3000 k (td51 q) (em51 q)) = run (step51 (f35 k)) k from funext fun q => evJ_run _ _ _ (st51 E (f35 k)) k q]
  exact h
noncomputable def F66 (E : Bool) : Fn TT (Bool) := ⟨Try.prog, (UU E), tbl [], Try.f66.ntmps, Try.f66.results.toList, [4], true, 0, annOf [], finD (Dc.bool (UU E))⟩
noncomputable def start66 : S34 → Option (Bool)
  | x0 => (cond (((x0).f0 : Int) == 0) (cond (((x0).f1 : Int) == 0) (cond (((x0).f2 : Int) == 0) (cond (((x0).f3 : Int) == 0) (cond (((x0).f4 : Int) == 0) (cond (((x0).f5 : Int) == 0) (cond (!(x0).f6) (cond (((x0).f7).toList == ((⟨#[]⟩ : ByteArray)).toList) (some ((((((x0).f8).length : Nat) : Int) : Int) == 0)) (some false)) (some false)) (some false)) (some false)) (some false)) (some false)) (some false)) (some false))
noncomputable def f66 (k : Nat) : S34 → Option (Bool) := start66
theorem en66 (E : Bool) (G : List Item → St TT → Option (Bool)) (a : S34) : ev (F66 E) G 3000 [.code (bodyOf Try.f66)] (st0 ((Dl.one (Dc.agg (uu E) 34)).en a)) = start66 a := by
  kernel_rfl
theorem snd66 (E : Bool) (k : Nat) : Snd Try.prog (UU E) 66 (W (Dl.one (Dc.agg (uu E) 34)) (f66 k) (Dc.bool (UU E))) := by
  refine snd_fn (F := F66 E) (fn := Try.f66) (body := bodyOf Try.f66) ⟨(uu E), tbl_ok trivial, mixed⟩ rfl rfl (by kernel_rfl) (by kernel_rfl) (by kernel_rfl) rfl rfl rfl (fun a => Nat.le_of_ble_eq_true rfl) ?_
  intro a r h
  refine ⟨3000, k, ?_⟩
  rw [en66]
  exact h
noncomputable def F40 (E : Bool) (g34 : Int → Option (Bool)) (g35 : Int × Int × Int → Option (Bool)) (g51 : ByteArray → Option (Bool)) (g66 : S34 → Option (Bool)) : Fn TT (Bool) := ⟨Try.prog, (UU E), tbl [(34, .plain (W (Dl.one (Dc.int (UU E) .i64)) g34 (Dc.bool (UU E)))), (35, .plain (W (Dl.cons (Dc.int (UU E) .i64) (Dl.cons (Dc.int (UU E) .i64) (Dl.one (Dc.int (UU E) .i64)))) g35 (Dc.bool (UU E)))), (51, .plain (W (Dl.one (Dc.str (UU E))) g51 (Dc.bool (UU E)))), (66, .plain (W (Dl.one (Dc.agg (uu E) 34)) g66 (Dc.bool (UU E))))], Try.f40.ntmps, Try.f40.results.toList, [4], true, 0, annOf [(5, [1]), (7, [1]), (8, [1, 3]), (9, [1, 3])], finD (Dc.bool (UU E))⟩
inductive J40 where
  | j5 (x0 : Int) (x1 : Int) (x2 : Int) (x3 : Int) (x4 : Int) (x5 : Int) (x6 : Bool) (x7 : ByteArray) (x8 : (List S47))
  | j7 (x0 : Int) (x1 : Int) (x2 : Int) (x3 : Int) (x4 : Int) (x5 : Int) (x6 : Bool) (x7 : ByteArray) (x8 : (List S47))
  | j8 (x0 : Int) (x1 : Int) (x2 : Int) (x3 : Int) (x4 : Int) (x5 : Int) (x6 : Int) (x7 : Bool) (x8 : ByteArray) (x9 : (List S47))
  | j9 (x0 : Int) (x1 : Int) (x2 : Int) (x3 : Int) (x4 : Int) (x5 : Int) (x6 : Int) (x7 : Bool) (x8 : ByteArray) (x9 : (List S47))
noncomputable def td40 : J40 → List Item
  | .j5 _ _ _ _ _ _ _ _ _ => fnd 5 (bodyOf Try.f40) []
  | .j7 _ _ _ _ _ _ _ _ _ => fnd 7 (bodyOf Try.f40) []
  | .j8 _ _ _ _ _ _ _ _ _ _ => fnd 8 (bodyOf Try.f40) []
  | .j9 _ _ _ _ _ _ _ _ _ _ => fnd 9 (bodyOf Try.f40) []
noncomputable def em40 : J40 → St TT
  | .j5 x0 x1 x2 x3 x4 x5 x6 x7 x8 => ⟨[(1, .ptr 0 0)], [(0, .cells 34 [.v (.int .i64 x0), .v (.int .i64 x1), .v (.int .i64 x2), .v (.int .i64 x3), .v (.int .i64 x4), .v (.int .i64 x5), .v (.bool x6), .v (.string x7), .row 47 x8])], 1⟩
  | .j7 x0 x1 x2 x3 x4 x5 x6 x7 x8 => ⟨[(1, .ptr 0 0)], [(0, .cells 34 [.v (.int .i64 x0), .v (.int .i64 x1), .v (.int .i64 x2), .v (.int .i64 x3), .v (.int .i64 x4), .v (.int .i64 x5), .v (.bool x6), .v (.string x7), .row 47 x8])], 1⟩
  | .j8 x0 x1 x2 x3 x4 x5 x6 x7 x8 x9 => ⟨[(1, .ptr 0 0), (3, .v (.int .i64 x0))], [(0, .cells 34 [.v (.int .i64 x1), .v (.int .i64 x2), .v (.int .i64 x3), .v (.int .i64 x4), .v (.int .i64 x5), .v (.int .i64 x6), .v (.bool x7), .v (.string x8), .row 47 x9])], 1⟩
  | .j9 x0 x1 x2 x3 x4 x5 x6 x7 x8 x9 => ⟨[(1, .ptr 0 0), (3, .v (.int .i64 x0))], [(0, .cells 34 [.v (.int .i64 x1), .v (.int .i64 x2), .v (.int .i64 x3), .v (.int .i64 x4), .v (.int .i64 x5), .v (.int .i64 x6), .v (.bool x7), .v (.string x8), .row 47 x9])], 1⟩
noncomputable def step40 (g34 : Int → Option (Bool)) (g35 : Int × Int × Int → Option (Bool)) (g51 : ByteArray → Option (Bool)) (g66 : S34 → Option (Bool)) (go : J40 → Option (Bool)) : J40 → Option (Bool)
  | .j5 x0 x1 x2 x3 x4 x5 x6 x7 x8 => (cond ((x0 : Int) == 2) (cond (!((x7).toList == ((⟨#[]⟩ : ByteArray)).toList)) (some false) (cond x6 (some false) (cond ((x0 : Int) == 1) (cond (decide (((((x8).length : Nat) : Int) : Int) > 0)) (some false) (go (.j7 x0 x1 x2 x3 x4 x5 x6 x7 x8))) (go (.j7 x0 x1 x2 x3 x4 x5 x6 x7 x8))))) (cond ((x0 : Int) == 1) (cond (decide (((((x8).length : Nat) : Int) : Int) > 0)) (some false) (go (.j7 x0 x1 x2 x3 x4 x5 x6 x7 x8))) (go (.j7 x0 x1 x2 x3 x4 x5 x6 x7 x8))))
  | .j7 x0 x1 x2 x3 x4 x5 x6 x7 x8 => (go (.j8 0 x0 x1 x2 x3 x4 x5 x6 x7 x8))
  | .j8 x0 x1 x2 x3 x4 x5 x6 x7 x8 x9 => (cond (decide ((x0 : Int) < (((x9).length : Nat) : Int))) (cond (decide ((0 : Int) ≤ x0)) (cond (decide ((x0 : Int) < (((x9).length : Nat) : Int))) (((g51 ((rd47 x9 x0)).f0)).bind fun r7 => (cond (!r7) (some false) (((g35 (((rd47 x9 x0)).f1, (1, 9)))).bind fun r8 => (cond (!r8) (some false) (cond (decide ((x0 : Int) > 0)) (cond (decide ((0 : Int) ≤ (w64 (x0 - 1)))) (cond (decide (((w64 (x0 - 1)) : Int) < (((x9).length : Nat) : Int))) (cond (!(Go.Op.bytesLess (((rd47 x9 (w64 (x0 - 1)))).f0).toList (((rd47 x9 x0)).f0).toList)) (some false) (go (.j9 x0 x1 x2 x3 x4 x5 x6 x7 x8 x9))) none) none) (go (.j9 x0 x1 x2 x3 x4 x5 x6 x7 x8 x9))))))) none) none) (some true))
  | .j9 x0 x1 x2 x3 x4 x5 x6 x7 x8 x9 => (go (.j8 (w64 (x0 + 1)) x1 x2 x3 x4 x5 x6 x7 x8 x9))
noncomputable def start40 (g34 : Int → Option (Bool)) (g35 : Int × Int × Int → Option (Bool)) (g51 : ByteArray → Option (Bool)) (g66 : S34 → Option (Bool)) (go : J40 → Option (Bool)) : S34 → Option (Bool)
  | x0 => (cond (((x0).f0 : Int) == 0) (((g66 (x0))).bind fun r0 => (some r0)) (((g35 ((x0).f0, (1, 2)))).bind fun r1 => (cond (!r1) (some false) (((g35 ((x0).f1, (0, 511)))).bind fun r2 => (cond (!r2) (some false) (((g34 (x0).f2)).bind fun r3 => (cond (!r3) (some false) (((g34 (x0).f3)).bind fun r4 => (cond (!r4) (some false) (((g35 ((x0).f5, (0, 99)))).bind fun r5 => (cond (!r5) (some false) (((g35 ((x0).f4, (0, 99)))).bind fun r6 => (cond (!r6) (some false) (cond (decide ((((((x0).f7).size : Nat) : Int) : Int) > 40)) (some false) (cond (decide ((((((x0).f8).length : Nat) : Int) : Int) > 6)) (some false) (go (.j5 (x0).f0 (x0).f1 (x0).f2 (x0).f3 (x0).f4 (x0).f5 (x0).f6 (x0).f7 (x0).f8)))))))))))))))))
noncomputable def f40 (k : Nat) : S34 → Option (Bool) := start40 (f34 k) (f35 k) (f51 k) (f66 k) (run (step40 (f34 k) (f35 k) (f51 k) (f66 k)) k)
theorem st40 (E : Bool) (g34 : Int → Option (Bool)) (g35 : Int × Int × Int → Option (Bool)) (g51 : ByteArray → Option (Bool)) (g66 : S34 → Option (Bool)) (G : List Item → St TT → Option (Bool)) (p : J40) : evFrom (F40 E g34 g35 g51 g66) G 3000 (td40 p) (em40 p) = step40 g34 g35 g51 g66 (fun q => G (td40 q) (em40 q)) p := by
  cases p <;> kernel_rfl
theorem en40 (E : Bool) (g34 : Int → Option (Bool)) (g35 : Int × Int × Int → Option (Bool)) (g51 : ByteArray → Option (Bool)) (g66 : S34 → Option (Bool)) (G : List Item → St TT → Option (Bool)) (a : S34) : ev (F40 E g34 g35 g51 g66) G 3000 [.code (bodyOf Try.f40)] (st0 ((Dl.one (Dc.agg (uu E) 34)).en a)) = start40 g34 g35 g51 g66 (fun q => G (td40 q) (em40 q)) a := by
  kernel_rfl
theorem snd40 (E : Bool) (k : Nat) : Snd Try.prog (UU E) 40 (W (Dl.one (Dc.agg (uu E) 34)) (f40 k) (Dc.bool (UU E))) := by
  refine snd_fn (F := F40 E (f34 k) (f35 k) (f51 k) (f66 k)) (fn := Try.f40) (body := bodyOf Try.f40) ⟨(uu E), tbl_ok ⟨snd34 E k, snd35 E k, snd51 E k, snd66 E k, trivial⟩, mixed⟩ rfl rfl (by kernel_rfl) (by kernel_rfl) (by kernel_rfl) rfl rfl rfl (fun a => Nat.le_of_ble_eq_true rfl) ?_
  intro a r h
  refine ⟨3000, k, ?_⟩
  rw [en40]
  rw [show (fun q => evJ (F40 E (f34 k) (f35 k) (f51 k) (f66 k)) 3000 k (td40 q) (em40 q)) = run (step40 (f34 k) (f35 k) (f51 k) (f66 k)) k from funext fun q => evJ_run _ _ _ (st40 E (f34 k) (f35 k) (f51 k) (f66 k)) k q]
  exact h
noncomputable def F41 (E : Bool) : Fn TT ((List Bool) × Bool) := ⟨Try.prog, (UU E), tbl [], Try.f41.ntmps, Try.f41.results.toList, [73, 4], true, 0, annOf [(3, [1, 4, 5]), (10, [1, 4, 5, 6, 7]), (11, [1, 4, 5, 6, 7])], finD (Dc.tup (Dl.cons (Dc.row (UU E) 4) (Dl.one (Dc.bool (UU E)))))⟩
inductive J41 where
  | j3 (x0 : (List S34)) (x1 : (List Bool)) (x2 : (List Int))
  | j10 (x0 : Int) (x1 : Int) (x2 : (List S34)) (x3 : (List Bool)) (x4 : (List Int))
  | j11 (x0 : Int) (x1 : Int) (x2 : (List S34)) (x3 : (List Bool)) (x4 : (List Int))
noncomputable def td41 : J41 → List Item
  | .j3 _ _ _ => fnd 3 (bodyOf Try.f41) []
  | .j10 _ _ _ _ _ => fnd 10 (bodyOf Try.f41) []
  | .j11 _ _ _ _ _ => fnd 11 (bodyOf Try.f41) []
noncomputable def em41 : J41 → St TT
  | .j3 x0 x1 x2 => ⟨[(1, .ptr 0 0), (4, .own 1), (5, .own 2)], [(0, .cells 27 [.row 34 x0]), (1, .arr 4 x1), (2, .arr 3 x2)], 3⟩
  | .j10 x0 x1 x2 x3 x4 => ⟨[(1, .ptr 0 0), (4, .own 1), (5, .own 2), (6, .v (.int .i64 x0)), (7, .v (.int .i64 x1))], [(0, .cells 27 [.row 34 x2]), (1, .arr 4 x3), (2, .arr 3 x4)], 3⟩
  | .j11 x0 x1 x2 x3 x4 => ⟨[(1, .ptr 0 0), (4, .own 1), (5, .own 2), (6, .v (.int .i64 x0)), (7, .v (.int .i64 x1))], [(0, .cells 27 [.row 34 x2]), (1, .arr 4 x3), (2, .arr 3 x4)], 3⟩
noncomputable def step41 (go : J41 → Option ((List Bool) × Bool)) : J41 → Option ((List Bool) × Bool)
  | .j3 x0 x1 x2 => (cond (decide (((((x2).length : Nat) : Int) : Int) > 0)) (cond (decide ((0 : Int) < (((x2).length : Nat) : Int))) (cond (decide ((0 : Int) < (((x2).length : Nat) : Int))) (cond (decide ((1 : Int) ≤ (((x2).length : Nat) : Int))) (cond (decide ((((([] : List Int)).length + ((List.drop 1 (List.take (x2).length x2))).length) * 8) ≤ 140737488355328)) (cond (decide ((0 : Int) ≤ (rd3 x2 0))) (cond (decide (((rd3 x2 0) : Int) < (((x1).length : Nat) : Int))) (cond (decide ((0 : Int) ≤ (rd3 x2 0))) (cond (decide (((rd3 x2 0) : Int) < (((x1).length : Nat) : Int))) (cond (rd4 x1 (rd3 x2 0)) (some (x1, false)) (cond (decide ((0 : Int) ≤ (rd3 x2 0))) (cond (decide (((rd3 x2 0) : Int) < (((x1).length : Nat) : Int))) (cond (decide ((0 : Int) ≤ (rd3 x2 0))) (cond (decide (((rd3 x2 0) : Int) < (((x1).length : Nat) : Int))) (go (.j10 (rd3 x2 0) 0 x0 (List.set x1 ((rd3 x2 0)).toNat true) (([] : List Int) ++ (List.drop 1 (List.take (x2).length x2))))) none) none) none) none)) none) none) none) none) none) none) none) none) (some (x1, true)))
  | .j10 x0 x1 x2 x3 x4 => (cond (decide ((0 : Int) ≤ x0)) (cond (decide ((x0 : Int) < (((x2).length : Nat) : Int))) (cond (decide ((x1 : Int) < (((((rd34 x2 x0)).f8).length : Nat) : Int))) (cond (decide ((0 : Int) ≤ x0)) (cond (decide ((x0 : Int) < (((x2).length : Nat) : Int))) (cond (decide ((0 : Int) ≤ x1)) (cond (decide ((x1 : Int) < (((((rd34 x2 x0)).f8).length : Nat) : Int))) (cond (decide ((0 : Int) ≤ ((rd47 ((rd34 x2 x0)).f8 x1)).f1)) (cond (decide ((((rd47 ((rd34 x2 x0)).f8 x1)).f1 : Int) < (((x2).length : Nat) : Int))) (cond ((((rd34 x2 ((rd47 ((rd34 x2 x0)).f8 x1)).f1)).f0 : Int) == 2) (cond (decide ((((x4).length + ([((rd47 ((rd34 x2 x0)).f8 x1)).f1]).length) * 8) ≤ 140737488355328)) (go (.j11 x0 x1 x2 x3 (x4 ++ [((rd47 ((rd34 x2 x0)).f8 x1)).f1]))) none) (go (.j11 x0 x1 x2 x3 x4))) none) none) none) none) none) none) (go (.j3 x2 x3 x4))) none) none)
  | .j11 x0 x1 x2 x3 x4 => (go (.j10 x0 (w64 (x1 + 1)) x2 x3 x4))
noncomputable def start41 (go : J41 → Option ((List Bool) × Bool)) : S27 → Option ((List Bool) × Bool)
  | x0 => (cond (decide (((1 * ((((x0).f0).length : Nat) : Int)) : Int) ≤ 140737488355328)) (cond (decide ((((((x0).f0).length : Nat) : Int) : Int) ≤ 140737488355328)) (go (.j3 (x0).f0 (List.replicate (((((x0).f0).length : Nat) : Int)).toNat false) [0])) none) none)
noncomputable def f41 (k : Nat) : S27 → Option ((List Bool) × Bool) := start41 (run (step41) k)
theorem st41 (E : Bool) (G : List Item → St TT → Option ((List Bool) × Bool)) (p : J41) : evFrom (F41 E) G 3000 (td41 p) (em41 p) = step41 (fun q => G (td41 q) (em41 q)) p := by
  cases p <;> kernel_rfl
theorem en41 (E : Bool) (G : List Item → St TT → Option ((List Bool) × Bool)) (a : S27) : ev (F41 E) G 3000 [.code (bodyOf Try.f41)] (st0 ((Dl.one (Dc.agg (uu E) 27)).en a)) = start41 (fun q => G (td41 q) (em41 q)) a := by
  kernel_rfl
theorem snd41 (E : Bool) (k : Nat) : Snd Try.prog (UU E) 41 (W (Dl.one (Dc.agg (uu E) 27)) (f41 k) (Dc.tup (Dl.cons (Dc.row (UU E) 4) (Dl.one (Dc.bool (UU E)))))) := by
  refine snd_fn (F := F41 E) (fn := Try.f41) (body := bodyOf Try.f41) ⟨(uu E), tbl_ok trivial, mixed⟩ rfl rfl (by kernel_rfl) (by kernel_rfl) (by kernel_rfl) rfl rfl rfl (fun a => Nat.le_of_ble_eq_true rfl) ?_
  intro a r h
  refine ⟨3000, k, ?_⟩
  rw [en41]
  rw [show (fun q => evJ (F41 E) 3000 k (td41 q) (em41 q)) = run (step41) k from funext fun q => evJ_run _ _ _ (st41 E) k q]
  exact h
noncomputable def F16 (E : Bool) (g40 : S34 → Option (Bool)) (g41 : S27 → Option ((List Bool) × Bool)) : Fn TT (Bool) := ⟨Try.prog, (UU E), tbl [(40, .plain (W (Dl.one (Dc.agg (uu E) 34)) g40 (Dc.bool (UU E)))), (41, .plain (W (Dl.one (Dc.agg (uu E) 27)) g41 (Dc.tup (Dl.cons (Dc.row (UU E) 4) (Dl.one (Dc.bool (UU E)))))))], Try.f16.ntmps, Try.f16.results.toList, [4], true, 0, annOf [(5, [1, 3, 4]), (10, [1, 3, 4, 5]), (17, [1, 3, 6, 7, 8]), (19, [1, 3, 6, 7, 8]), (18, [1, 3, 6, 7, 8])], finD (Dc.bool (UU E))⟩
inductive J16 where
  | j5 (x0 : Int) (x1 : (List S34)) (x2 : (List Int))
  | j10 (x0 : Int) (x1 : Int) (x2 : (List S34)) (x3 : (List Int))
  | j17 (x0 : (List Bool)) (x1 : Bool) (x2 : Int) (x3 : (List S34)) (x4 : (List Int))
  | j19 (x0 : (List Bool)) (x1 : Bool) (x2 : Int) (x3 : (List S34)) (x4 : (List Int))
  | j18 (x0 : (List Bool)) (x1 : Bool) (x2 : Int) (x3 : (List S34)) (x4 : (List Int))
noncomputable def td16 : J16 → List Item
  | .j5 _ _ _ => fnd 5 (bodyOf Try.f16) []
  | .j10 _ _ _ _ => fnd 10 (bodyOf Try.f16) []
  | .j17 _ _ _ _ _ => fnd 17 (bodyOf Try.f16) []
  | .j19 _ _ _ _ _ => fnd 19 (bodyOf Try.f16) []
  | .j18 _ _ _ _ _ => fnd 18 (bodyOf Try.f16) []
noncomputable def em16 : J16 → St TT
  | .j5 x0 x1 x2 => ⟨[(1, .ptr 0 0), (3, .own 1), (4, .v (.int .i64 x0))], [(0, .cells 27 [.row 34 x1]), (1, .arr 3 x2)], 2⟩
  | .j10 x0 x1 x2 x3 => ⟨[(1, .ptr 0 0), (3, .own 1), (4, .v (.int .i64 x0)), (5, .v (.int .i64 x1))], [(0, .cells 27 [.row 34 x2]), (1, .arr 3 x3)], 2⟩
  | .j17 x0 x1 x2 x3 x4 => ⟨[(1, .ptr 0 0), (3, .own 1), (6, .row 4 x0), (7, .v (.bool x1)), (8, .v (.int .i64 x2))], [(0, .cells 27 [.row 34 x3]), (1, .arr 3 x4)], 2⟩
  | .j19 x0 x1 x2 x3 x4 => ⟨[(1, .ptr 0 0), (3, .own 1), (6, .row 4 x0), (7, .v (.bool x1)), (8, .v (.int .i64 x2))], [(0, .cells 27 [.row 34 x3]), (1, .arr 3 x4)], 2⟩
  | .j18 x0 x1 x2 x3 x4 => ⟨[(1, .ptr 0 0), (3, .own 1), (6, .row 4 x0), (7, .v (.bool x1)), (8, .v (.int .i64 x2))], [(0, .cells 27 [.row 34 x3]), (1, .arr 3 x4)], 2⟩
noncomputable def step16 (g40 : S34 → Option (Bool)) (g41 : S27 → Option ((List Bool) × Bool)) (go : J16 → Option (Bool)) : J16 → Option (Bool)
  | .j5 x0 x1 x2 => (cond (decide ((x0 : Int) < 10)) (cond (decide ((0 : Int) ≤ x0)) (cond (decide ((x0 : Int) < (((x1).length : Nat) : Int))) (((g40 ((rd34 x1 x0)))).bind fun r0 => (cond (!r0) (some false) (go (.j10 x0 0 x1 x2)))) none) none) (cond (decide ((0 : Int) < (((x1).length : Nat) : Int))) (cond ((((rd34 x1 0)).f0 : Int) != 2) (some false) (((g41 (⟨x1⟩ : S27))).bind fun r1 => (go (.j17 (r1).fst (r1).snd 0 x1 x2)))) none))
  | .j10 x0 x1 x2 x3 => (cond (decide ((0 : Int) ≤ x0)) (cond (decide ((x0 : Int) < (((x2).length : Nat) : Int))) (cond (decide ((x1 : Int) < (((((rd34 x2 x0)).f8).length : Nat) : Int))) (cond (decide ((0 : Int) ≤ x0)) (cond (decide ((x0 : Int) < (((x2).length : Nat) : Int))) (cond (decide ((0 : Int) ≤ x1)) (cond (decide ((x1 : Int) < (((((rd34 x2 x0)).f8).length : Nat) : Int))) (cond (decide ((0 : Int) ≤ x0)) (cond (decide ((x0 : Int) < (((x2).length : Nat) : Int))) (cond (decide ((0 : Int) ≤ x1)) (cond (decide ((x1 : Int) < (((((rd34 x2 x0)).f8).length : Nat) : Int))) (cond (decide ((0 : Int) ≤ ((rd47 ((rd34 x2 x0)).f8 x1)).f1)) (cond (decide ((((rd47 ((rd34 x2 x0)).f8 x1)).f1 : Int) < (((x3).length : Nat) : Int))) (cond (decide ((0 : Int) ≤ ((rd47 ((rd34 x2 x0)).f8 x1)).f1)) (cond (decide ((((rd47 ((rd34 x2 x0)).f8 x1)).f1 : Int) < (((x3).length : Nat) : Int))) (cond (decide ((0 : Int) ≤ ((rd47 ((rd34 x2 x0)).f8 x1)).f1)) (cond (decide ((((rd47 ((rd34 x2 x0)).f8 x1)).f1 : Int) < (((x3).length : Nat) : Int))) (cond (decide ((0 : Int) ≤ ((rd47 ((rd34 x2 x0)).f8 x1)).f1)) (cond (decide ((((rd47 ((rd34 x2 x0)).f8 x1)).f1 : Int) < (((x3).length : Nat) : Int))) (go (.j10 x0 (w64 (x1 + 1)) x2 (List.set x3 (((rd47 ((rd34 x2 x0)).f8 x1)).f1).toNat (w64 ((rd3 x3 ((rd47 ((rd34 x2 x0)).f8 x1)).f1) + 1))))) none) none) none) none) none) none) none) none) none) none) none) none) none) none) none) none) (go (.j5 (w64 (x0 + 1)) x2 x3))) none) none)
  | .j17 x0 x1 x2 x3 x4 => (cond (decide ((x2 : Int) < 10)) (cond x1 (go (.j19 x0 x1 x2 x3 x4)) (some x1)) (some x1))
  | .j19 x0 x1 x2 x3 x4 => (cond (decide ((0 : Int) ≤ x2)) (cond (decide ((x2 : Int) < (((x3).length : Nat) : Int))) (cond (decide ((0 : Int) ≤ x2)) (cond (decide ((x2 : Int) < (((x4).length : Nat) : Int))) (cond (decide ((0 : Int) ≤ x2)) (cond (decide ((x2 : Int) < (((x4).length : Nat) : Int))) (cond (decide (((rd3 x4 x2) : Int) > 0)) (cond ((((rd34 x3 x2)).f0 : Int) == 0) (some false) (cond ((((rd34 x3 x2)).f0 : Int) != 0) (cond (decide ((0 : Int) ≤ x2)) (cond (decide ((x2 : Int) < (((x4).length : Nat) : Int))) (cond (decide ((0 : Int) ≤ x2)) (cond (decide ((x2 : Int) < (((x4).length : Nat) : Int))) (cond ((((rd34 x3 x2)).f4 : Int) != (rd3 x4 x2)) (some false) (cond ((((rd34 x3 x2)).f0 : Int) == 2) (cond (decide ((0 : Int) ≤ x2)) (cond (decide ((x2 : Int) < (((x0).length : Nat) : Int))) (cond (!(rd4 x0 x2)) (some false) (cond ((((rd34 x3 x2)).f0 : Int) == 1) (cond ((((rd34 x3 x2)).f4 : Int) == 0) (cond ((((rd34 x3 x2)).f5 : Int) == 0) (some false) (go (.j18 x0 x1 x2 x3 x4))) (go (.j18 x0 x1 x2 x3 x4))) (go (.j18 x0 x1 x2 x3 x4)))) none) none) (cond ((((rd34 x3 x2)).f0 : Int) == 1) (cond ((((rd34 x3 x2)).f4 : Int) == 0) (cond ((((rd34 x3 x2)).f5 : Int) == 0) (some false) (go (.j18 x0 x1 x2 x3 x4))) (go (.j18 x0 x1 x2 x3 x4))) (go (.j18 x0 x1 x2 x3 x4))))) none) none) none) none) (cond ((((rd34 x3 x2)).f0 : Int) == 2) (cond (decide ((0 : Int) ≤ x2)) (cond (decide ((x2 : Int) < (((x0).length : Nat) : Int))) (cond (!(rd4 x0 x2)) (some false) (cond ((((rd34 x3 x2)).f0 : Int) == 1) (cond ((((rd34 x3 x2)).f4 : Int) == 0) (cond ((((rd34 x3 x2)).f5 : Int) == 0) (some false) (go (.j18 x0 x1 x2 x3 x4))) (go (.j18 x0 x1 x2 x3 x4))) (go (.j18 x0 x1 x2 x3 x4)))) none) none) (cond ((((rd34 x3 x2)).f0 : Int) == 1) (cond ((((rd34 x3 x2)).f4 : Int) == 0) (cond ((((rd34 x3 x2)).f5 : Int) == 0) (some false) (go (.j18 x0 x1 x2 x3 x4))) (go (.j18 x0 x1 x2 x3 x4))) (go (.j18 x0 x1 x2 x3 x4)))))) (cond ((((rd34 x3 x2)).f0 : Int) != 0) (cond (decide ((0 : Int) ≤ x2)) (cond (decide ((x2 : Int) < (((x4).length : Nat) : Int))) (cond (decide ((0 : Int) ≤ x2)) (cond (decide ((x2 : Int) < (((x4).length : Nat) : Int))) (cond ((((rd34 x3 x2)).f4 : Int) != (rd3 x4 x2)) (some false) (cond ((((rd34 x3 x2)).f0 : Int) == 2) (cond (decide ((0 : Int) ≤ x2)) (cond (decide ((x2 : Int) < (((x0).length : Nat) : Int))) (cond (!(rd4 x0 x2)) (some false) (cond ((((rd34 x3 x2)).f0 : Int) == 1) (cond ((((rd34 x3 x2)).f4 : Int) == 0) (cond ((((rd34 x3 x2)).f5 : Int) == 0) (some false) (go (.j18 x0 x1 x2 x3 x4))) (go (.j18 x0 x1 x2 x3 x4))) (go (.j18 x0 x1 x2 x3 x4)))) none) none) (cond ((((rd34 x3 x2)).f0 : Int) == 1) (cond ((((rd34 x3 x2)).f4 : Int) == 0) (cond ((((rd34 x3 x2)).f5 : Int) == 0) (some false) (go (.j18 x0 x1 x2 x3 x4))) (go (.j18 x0 x1 x2 x3 x4))) (go (.j18 x0 x1 x2 x3 x4))))) none) none) none) none) (cond ((((rd34 x3 x2)).f0 : Int) == 2) (cond (decide ((0 : Int) ≤ x2)) (cond (decide ((x2 : Int) < (((x0).length : Nat) : Int))) (cond (!(rd4 x0 x2)) (some false) (cond ((((rd34 x3 x2)).f0 : Int) == 1) (cond ((((rd34 x3 x2)).f4 : Int) == 0) (cond ((((rd34 x3 x2)).f5 : Int) == 0) (some false) (go (.j18 x0 x1 x2 x3 x4))) (go (.j18 x0 x1 x2 x3 x4))) (go (.j18 x0 x1 x2 x3 x4)))) none) none) (cond ((((rd34 x3 x2)).f0 : Int) == 1) (cond ((((rd34 x3 x2)).f4 : Int) == 0) (cond ((((rd34 x3 x2)).f5 : Int) == 0) (some false) (go (.j18 x0 x1 x2 x3 x4))) (go (.j18 x0 x1 x2 x3 x4))) (go (.j18 x0 x1 x2 x3 x4)))))) none) none) none) none) none) none)
  | .j18 x0 x1 x2 x3 x4 => (go (.j17 x0 x1 (w64 (x2 + 1)) x3 x4))
noncomputable def start16 (g40 : S34 → Option (Bool)) (g41 : S27 → Option ((List Bool) × Bool)) (go : J16 → Option (Bool)) : S27 → Option (Bool)
  | x0 => (cond ((((((x0).f0).length : Nat) : Int) : Int) != 10) (some false) (go (.j5 0 (x0).f0 (List.replicate 10 0))))
noncomputable def f16 (k : Nat) : S27 → Option (Bool) := start16 (f40 k) (f41 k) (run (step16 (f40 k) (f41 k)) k)
theorem st16 (E : Bool) (g40 : S34 → Option (Bool)) (g41 : S27 → Option ((List Bool) × Bool)) (G : List Item → St TT → Option (Bool)) (p : J16) : evFrom (F16 E g40 g41) G 3000 (td16 p) (em16 p) = step16 g40 g41 (fun q => G (td16 q) (em16 q)) p := by
  cases p <;> kernel_rfl
theorem en16 (E : Bool) (g40 : S34 → Option (Bool)) (g41 : S27 → Option ((List Bool) × Bool)) (G : List Item → St TT → Option (Bool)) (a : S27) : ev (F16 E g40 g41) G 3000 [.code (bodyOf Try.f16)] (st0 ((Dl.one (Dc.agg (uu E) 27)).en a)) = start16 g40 g41 (fun q => G (td16 q) (em16 q)) a := by
  kernel_rfl
theorem snd16 (E : Bool) (k : Nat) : Snd Try.prog (UU E) 16 (W (Dl.one (Dc.agg (uu E) 27)) (f16 k) (Dc.bool (UU E))) := by
  refine snd_fn (F := F16 E (f40 k) (f41 k)) (fn := Try.f16) (body := bodyOf Try.f16) ⟨(uu E), tbl_ok ⟨snd40 E k, snd41 E k, trivial⟩, mixed⟩ rfl rfl (by kernel_rfl) (by kernel_rfl) (by kernel_rfl) rfl rfl rfl (fun a => Nat.le_of_ble_eq_true rfl) ?_
  intro a r h
  refine ⟨3000, k, ?_⟩
  rw [en16]
  rw [show (fun q => evJ (F16 E (f40 k) (f41 k)) 3000 k (td16 q) (em16 q)) = run (step16 (f40 k) (f41 k)) k from funext fun q => evJ_run _ _ _ (st16 E (f40 k) (f41 k)) k q]
  exact h
noncomputable def F44 (E : Bool) (g35 : Int × Int × Int → Option (Bool)) : Fn TT (Bool) := ⟨Try.prog, (UU E), tbl [(35, .plain (W (Dl.cons (Dc.int (UU E) .i64) (Dl.cons (Dc.int (UU E) .i64) (Dl.one (Dc.int (UU E) .i64)))) g35 (Dc.bool (UU E))))], Try.f44.ntmps, Try.f44.results.toList, [4], true, 0, annOf [], finD (Dc.bool (UU E))⟩
noncomputable def start44 (g35 : Int × Int × Int → Option (Bool)) : S27 × Int → Option (Bool)
  | (x0, x1) => (((g35 (x1, (0, (w64 (((((x0).f0).length : Nat) : Int) - 1)))))).bind fun r0 => (cond r0 (cond (decide ((0 : Int) ≤ x1)) (cond (decide ((x1 : Int) < ((((x0).f0).length : Nat) : Int))) (some ((((rd34 (x0).f0 x1)).f0 : Int) != 0)) none) none) (some false)))
noncomputable def f44 (k : Nat) : S27 × Int → Option (Bool) := start44 (f35 k)
theorem en44 (E : Bool) (g35 : Int × Int × Int → Option (Bool)) (G : List Item → St TT → Option (Bool)) (a : S27 × Int) : ev (F44 E g35) G 3000 [.code (bodyOf Try.f44)] (st0 ((Dl.cons (Dc.agg (uu E) 27) (Dl.one (Dc.int (UU E) .i64))).en a)) = start44 g35 a := by
  obtain ⟨x0, x1⟩ := a
  kernel_rfl
theorem snd44 (E : Bool) (k : Nat) : Snd Try.prog (UU E) 44 (W (Dl.cons (Dc.agg (uu E) 27) (Dl.one (Dc.int (UU E) .i64))) (f44 k) (Dc.bool (UU E))) := by
  refine snd_fn (F := F44 E (f35 k)) (fn := Try.f44) (body := bodyOf Try.f44) ⟨(uu E), tbl_ok ⟨snd35 E k, trivial⟩, mixed⟩ rfl rfl (by kernel_rfl) (by kernel_rfl) (by kernel_rfl) rfl rfl rfl (fun a => Nat.le_of_ble_eq_true rfl) ?_
  intro a r h
  refine ⟨3000, k, ?_⟩
  rw [en44]
  exact h
noncomputable def F50 (E : Bool) (g34 : Int → Option (Bool)) : Fn TT (Bool) := ⟨Try.prog, (UU E), tbl [(34, .plain (W (Dl.one (Dc.int (UU E) .i64)) g34 (Dc.bool (UU E))))], Try.f50.ntmps, Try.f50.results.toList, [4], true, 0, annOf [(2, [1, 3]), (3, [1, 3])], finD (Dc.bool (UU E))⟩
inductive J50 where
  | j2 (x0 : Int) (x1 : Int) (x2 : Int) (x3 : (List Int))
  | j3 (x0 : Int) (x1 : Int) (x2 : Int) (x3 : (List Int))
noncomputable def td50 : J50 → List Item
  | .j2 _ _ _ _ => fnd 2 (bodyOf Try.f50) []
  | .j3 _ _ _ _ => fnd 3 (bodyOf Try.f50) []
noncomputable def em50 : J50 → St TT
  | .j2 x0 x1 x2 x3 => ⟨[(1, .ptr 0 0), (3, .v (.int .i64 x0))], [(0, .cells 55 [.v (.int .i64 x1), .v (.int .i64 x2), .row 3 x3])], 1⟩
  | .j3 x0 x1 x2 x3 => ⟨[(1, .ptr 0 0), (3, .v (.int .i64 x0))], [(0, .cells 55 [.v (.int .i64 x1), .v (.int .i64 x2), .row 3 x3])], 1⟩
noncomputable def step50 (g34 : Int → Option (Bool)) (go : J50 → Option (Bool)) : J50 → Option (Bool)
  | .j2 x0 x1 x2 x3 => (cond (decide ((x0 : Int) < (((x3).length : Nat) : Int))) (cond (decide ((0 : Int) ≤ x0)) (cond (decide ((x0 : Int) < (((x3).length : Nat) : Int))) (((g34 (rd3 x3 x0))).bind fun r0 => (cond (!r0) (some false) (cond (decide ((x0 : Int) > 0)) (cond (decide ((0 : Int) ≤ (w64 (x0 - 1)))) (cond (decide (((w64 (x0 - 1)) : Int) < (((x3).length : Nat) : Int))) (cond (decide ((0 : Int) ≤ x0)) (cond (decide ((x0 : Int) < (((x3).length : Nat) : Int))) (cond (decide (((rd3 x3 (w64 (x0 - 1))) : Int) ≥ (rd3 x3 x0))) (some false) (go (.j3 x0 x1 x2 x3))) none) none) none) none) (go (.j3 x0 x1 x2 x3))))) none) none) (((g34 x1)).bind fun r1 => (cond r1 (((g34 x2)).bind fun r2 => (cond r2 (some (decide (((((x3).length : Nat) : Int) : Int) ≤ 3))) (some false))) (some false))))
  | .j3 x0 x1 x2 x3 => (go (.j2 (w64 (x0 + 1)) x1 x2 x3))
noncomputable def start50 (g34 : Int → Option (Bool)) (go : J50 → Option (Bool)) : S52 → Option (Bool)
  | x0 => (go (.j2 0 (x0).f0 (x0).f1 (x0).f2))
noncomputable def f50 (k : Nat) : S52 → Option (Bool) := start50 (f34 k) (run (step50 (f34 k)) k)
theorem st50 (E : Bool) (g34 : Int → Option (Bool)) (G : List Item → St TT → Option (Bool)) (p : J50) : evFrom (F50 E g34) G 3000 (td50 p) (em50 p) = step50 g34 (fun q => G (td50 q) (em50 q)) p := by
  cases p <;> kernel_rfl
theorem en50 (E : Bool) (g34 : Int → Option (Bool)) (G : List Item → St TT → Option (Bool)) (a : S52) : ev (F50 E g34) G 3000 [.code (bodyOf Try.f50)] (st0 ((Dl.one (Dc.agg (uu E) 55)).en a)) = start50 g34 (fun q => G (td50 q) (em50 q)) a := by
  kernel_rfl
theorem snd50 (E : Bool) (k : Nat) : Snd Try.prog (UU E) 50 (W (Dl.one (Dc.agg (uu E) 55)) (f50 k) (Dc.bool (UU E))) := by
  refine snd_fn (F := F50 E (f34 k)) (fn := Try.f50) (body := bodyOf Try.f50) ⟨(uu E), tbl_ok ⟨snd34 E k, trivial⟩, mixed⟩ rfl rfl (by kernel_rfl) (by kernel_rfl) (by kernel_rfl) rfl rfl rfl (fun a => Nat.le_of_ble_eq_true rfl) ?_
  intro a r h
  refine ⟨3000, k, ?_⟩
  rw [en50]
  rw [show (fun q => evJ (F50 E (f34 k)) 3000 k (td50 q) (em50 q)) = run (step50 (f34 k)) k from funext fun q => evJ_run _ _ _ (st50 E (f34 k)) k q]
  exact h
noncomputable def F99 (E : Bool) : Fn TT (Bool) := ⟨Try.prog, (UU E), tbl [], Try.f99.ntmps, Try.f99.results.toList, [4], true, 0, annOf [(2, [0, 1, 5])], finD (Dc.bool (UU E))⟩
inductive J99 where
  | j2 (x0 : (List Int)) (x1 : Int) (x2 : Int)
noncomputable def td99 : J99 → List Item
  | .j2 _ _ _ => fnd 2 (bodyOf Try.f99) []
noncomputable def em99 : J99 → St TT
  | .j2 x0 x1 x2 => ⟨[(0, .row 3 x0), (1, .v (.int .i64 x1)), (5, .v (.int .i64 x2))], [], 0⟩
noncomputable def step99 (go : J99 → Option (Bool)) : J99 → Option (Bool)
  | .j2 x0 x1 x2 => (cond (decide ((x2 : Int) < (((x0).length : Nat) : Int))) (cond (decide ((0 : Int) ≤ x2)) (cond (decide ((x2 : Int) < (((x0).length : Nat) : Int))) (cond (((rd3 x0 x2) : Int) == x1) (some true) (go (.j2 x0 x1 (w64 (x2 + 1))))) none) none) (some false))
noncomputable def start99 (go : J99 → Option (Bool)) : (List Int) × Int → Option (Bool)
  | (x0, x1) => (go (.j2 x0 x1 0))
noncomputable def f99 (k : Nat) : (List Int) × Int → Option (Bool) := start99 (run (step99) k)
theorem st99 (E : Bool) (G : List Item → St TT → Option (Bool)) (p : J99) : evFrom (F99 E) G 3000 (td99 p) (em99 p) = step99 (fun q => G (td99 q) (em99 q)) p := by
  cases p <;> kernel_rfl
theorem en99 (E : Bool) (G : List Item → St TT → Option (Bool)) (a : (List Int) × Int) : ev (F99 E) G 3000 [.code (bodyOf Try.f99)] (st0 ((Dl.cons (Dc.row (UU E) 3) (Dl.one (Dc.int (UU E) .i64))).en a)) = start99 (fun q => G (td99 q) (em99 q)) a := by
  obtain ⟨x0, x1⟩ := a
  kernel_rfl
theorem snd99 (E : Bool) (k : Nat) : Snd Try.prog (UU E) 99 (W (Dl.cons (Dc.row (UU E) 3) (Dl.one (Dc.int (UU E) .i64))) (f99 k) (Dc.bool (UU E))) := by
  refine snd_fn (F := F99 E) (fn := Try.f99) (body := bodyOf Try.f99) ⟨(uu E), tbl_ok trivial, mixed⟩ rfl rfl (by kernel_rfl) (by kernel_rfl) (by kernel_rfl) rfl rfl rfl (fun a => Nat.le_of_ble_eq_true rfl) ?_
  intro a r h
  refine ⟨3000, k, ?_⟩
  rw [en99]
  rw [show (fun q => evJ (F99 E) 3000 k (td99 q) (em99 q)) = run (step99) k from funext fun q => evJ_run _ _ _ (st99 E) k q]
  exact h
noncomputable def F97 (E : Bool) (g99 : (List Int) × Int → Option (Bool)) : Fn TT (Bool) := ⟨Try.prog, (UU E), tbl [(99, .plain (W (Dl.cons (Dc.row (UU E) 3) (Dl.one (Dc.int (UU E) .i64))) g99 (Dc.bool (UU E))))], Try.f97.ntmps, Try.f97.results.toList, [4], true, 0, annOf [], finD (Dc.bool (UU E))⟩
noncomputable def start97 (g99 : (List Int) × Int → Option (Bool)) : S52 × Int × Int × Int × Int → Option (Bool)
  | (x0, x1, x2, x3, x4) => (cond (((x0).f0 : Int) == 0) (cond (decide (((w64 ((w64 ((Int.tmod x3 2) + (Int.tmod (w64 (Int.tdiv x3 8)) 2))) + (Int.tmod (w64 (Int.tdiv x3 64)) 2))) : Int) > 0)) (some (((and_ Go.IntKind.i64 7 x4) : Int) == x4)) (some (((and_ Go.IntKind.i64 6 x4) : Int) == x4))) (cond (((x0).f0 : Int) == x1) (some (((and_ Go.IntKind.i64 (w64 (Int.tdiv x3 64)) x4) : Int) == x4)) (((g99 ((x0).f2, x2))).bind fun r0 => (cond r0 (some (((and_ Go.IntKind.i64 (Int.tmod (w64 (Int.tdiv x3 8)) 8) x4) : Int) == x4)) (some (((and_ Go.IntKind.i64 (Int.tmod x3 8) x4) : Int) == x4))))))
noncomputable def f97 (k : Nat) : S52 × Int × Int × Int × Int → Option (Bool) := start97 (f99 k)
theorem en97 (E : Bool) (g99 : (List Int) × Int → Option (Bool)) (G : List Item → St TT → Option (Bool)) (a : S52 × Int × Int × Int × Int) : ev (F97 E g99) G 3000 [.code (bodyOf Try.f97)] (st0 ((Dl.cons (Dc.agg (uu E) 55) (Dl.cons (Dc.int (UU E) .i64) (Dl.cons (Dc.int (UU E) .i64) (Dl.cons (Dc.int (UU E) .i64) (Dl.one (Dc.int (UU E) .i64)))))).en a)) = start97 g99 a := by
  obtain ⟨x0, x1, x2, x3, x4⟩ := a
  kernel_rfl
theorem snd97 (E : Bool) (k : Nat) : Snd Try.prog (UU E) 97 (W (Dl.cons (Dc.agg (uu E) 55) (Dl.cons (Dc.int (UU E) .i64) (Dl.cons (Dc.int (UU E) .i64) (Dl.cons (Dc.int (UU E) .i64) (Dl.one (Dc.int (UU E) .i64)))))) (f97 k) (Dc.bool (UU E))) := by
  refine snd_fn (F := F97 E (f99 k)) (fn := Try.f97) (body := bodyOf Try.f97) ⟨(uu E), tbl_ok ⟨snd99 E k, trivial⟩, mixed⟩ rfl rfl (by kernel_rfl) (by kernel_rfl) (by kernel_rfl) rfl rfl rfl (fun a => Nat.le_of_ble_eq_true rfl) ?_
  intro a r h
  refine ⟨3000, k, ?_⟩
  rw [en97]
  exact h
noncomputable def F88 (E : Bool) (g97 : S52 × Int × Int × Int × Int → Option (Bool)) : Fn TT (Bool) := ⟨Try.prog, (UU E), tbl [(97, .plain (W (Dl.cons (Dc.agg (uu E) 55) (Dl.cons (Dc.int (UU E) .i64) (Dl.cons (Dc.int (UU E) .i64) (Dl.cons (Dc.int (UU E) .i64) (Dl.one (Dc.int (UU E) .i64)))))) g97 (Dc.bool (UU E))))], Try.f88.ntmps, Try.f88.results.toList, [4], true, 0, annOf [], finD (Dc.bool (UU E))⟩
noncomputable def start88 (g97 : S52 × Int × Int × Int × Int → Option (Bool)) : S27 × S52 × Int × Int → Option (Bool)
  | (x0, x1, x2, x3) => (cond (decide ((0 : Int) ≤ x2)) (cond (decide ((x2 : Int) < ((((x0).f0).length : Nat) : Int))) (((g97 ((x1), (((rd34 (x0).f0 x2)).f2, (((rd34 (x0).f0 x2)).f3, (((rd34 (x0).f0 x2)).f1, x3)))))).bind fun r0 => (some r0)) none) none)
noncomputable def f88 (k : Nat) : S27 × S52 × Int × Int → Option (Bool) := start88 (f97 k)
theorem en88 (E : Bool) (g97 : S52 × Int × Int × Int × Int → Option (Bool)) (G : List Item → St TT → Option (Bool)) (a : S27 × S52 × Int × Int) : ev (F88 E g97) G 3000 [.code (bodyOf Try.f88)] (st0 ((Dl.cons (Dc.agg (uu E) 27) (Dl.cons (Dc.agg (uu E) 55) (Dl.cons (Dc.int (UU E) .i64) (Dl.one (Dc.int (UU E) .i64))))).en a)) = start88 g97 a := by
  obtain ⟨x0, x1, x2, x3⟩ := a
  kernel_rfl
theorem snd88 (E : Bool) (k : Nat) : Snd Try.prog (UU E) 88 (W (Dl.cons (Dc.agg (uu E) 27) (Dl.cons (Dc.agg (uu E) 55) (Dl.cons (Dc.int (UU E) .i64) (Dl.one (Dc.int (UU E) .i64))))) (f88 k) (Dc.bool (UU E))) := by
  refine snd_fn (F := F88 E (f97 k)) (fn := Try.f88) (body := bodyOf Try.f88) ⟨(uu E), tbl_ok ⟨snd97 E k, trivial⟩, mixed⟩ rfl rfl (by kernel_rfl) (by kernel_rfl) (by kernel_rfl) rfl rfl rfl (fun a => Nat.le_of_ble_eq_true rfl) ?_
  intro a r h
  refine ⟨3000, k, ?_⟩
  rw [en88]
  exact h
noncomputable def F70 (E : Bool) (g88 : S27 × S52 × Int × Int → Option (Bool)) : Fn TT (Int) := ⟨Try.prog, (UU E), tbl [(88, .plain (W (Dl.cons (Dc.agg (uu E) 27) (Dl.cons (Dc.agg (uu E) 55) (Dl.cons (Dc.int (UU E) .i64) (Dl.one (Dc.int (UU E) .i64))))) g88 (Dc.bool (UU E))))], Try.f70.ntmps, Try.f70.results.toList, [3], true, 0, annOf [], finD (Dc.int (UU E) .i64)⟩
noncomputable def start70 (g88 : S27 × S52 × Int × Int → Option (Bool)) : S27 × S52 × Int × Int → Option (Int)
  | (x0, x1, x2, x3) => (cond (decide ((0 : Int) ≤ x2)) (cond (decide ((x2 : Int) < ((((x0).f0).length : Nat) : Int))) (cond ((((rd34 (x0).f0 x2)).f0 : Int) != 2) (some 4) (((g88 ((x0), ((x1), (x2, x3))))).bind fun r0 => (cond (!r0) (some 5) (some 0)))) none) none)
noncomputable def f70 (k : Nat) : S27 × S52 × Int × Int → Option (Int) := start70 (f88 k)
theorem en70 (E : Bool) (g88 : S27 × S52 × Int × Int → Option (Bool)) (G : List Item → St TT → Option (Int)) (a : S27 × S52 × Int × Int) : ev (F70 E g88) G 3000 [.code (bodyOf Try.f70)] (st0 ((Dl.cons (Dc.agg (uu E) 27) (Dl.cons (Dc.agg (uu E) 55) (Dl.cons (Dc.int (UU E) .i64) (Dl.one (Dc.int (UU E) .i64))))).en a)) = start70 g88 a := by
  obtain ⟨x0, x1, x2, x3⟩ := a
  kernel_rfl
theorem snd70 (E : Bool) (k : Nat) : Snd Try.prog (UU E) 70 (W (Dl.cons (Dc.agg (uu E) 27) (Dl.cons (Dc.agg (uu E) 55) (Dl.cons (Dc.int (UU E) .i64) (Dl.one (Dc.int (UU E) .i64))))) (f70 k) (Dc.int (UU E) .i64)) := by
  refine snd_fn (F := F70 E (f88 k)) (fn := Try.f70) (body := bodyOf Try.f70) ⟨(uu E), tbl_ok ⟨snd88 E k, trivial⟩, mixed⟩ rfl rfl (by kernel_rfl) (by kernel_rfl) (by kernel_rfl) rfl rfl rfl (fun a => Nat.le_of_ble_eq_true rfl) ?_
  intro a r h
  refine ⟨3000, k, ?_⟩
  rw [en70]
  exact h
noncomputable def F71 (E : Bool) : Fn TT (Int) := ⟨Try.prog, (UU E), tbl [], Try.f71.ntmps, Try.f71.results.toList, [3], true, 0, annOf [(2, [1, 2, 5])], finD (Dc.int (UU E) .i64)⟩
inductive J71 where
  | j2 (x0 : ByteArray) (x1 : Int) (x2 : Int) (x3 : Int) (x4 : Int) (x5 : Int) (x6 : Int) (x7 : Int) (x8 : Bool) (x9 : ByteArray) (x10 : (List S47))
noncomputable def td71 : J71 → List Item
  | .j2 _ _ _ _ _ _ _ _ _ _ _ => fnd 2 (bodyOf Try.f71) []
noncomputable def em71 : J71 → St TT
  | .j2 x0 x1 x2 x3 x4 x5 x6 x7 x8 x9 x10 => ⟨[(1, .v (.string x0)), (2, .ptr 0 0), (5, .v (.int .i64 x1))], [(0, .cells 34 [.v (.int .i64 x2), .v (.int .i64 x3), .v (.int .i64 x4), .v (.int .i64 x5), .v (.int .i64 x6), .v (.int .i64 x7), .v (.bool x8), .v (.string x9), .row 47 x10])], 1⟩
noncomputable def step71 (go : J71 → Option (Int)) : J71 → Option (Int)
  | .j2 x0 x1 x2 x3 x4 x5 x6 x7 x8 x9 x10 => (cond (decide ((x1 : Int) < (((x10).length : Nat) : Int))) (cond (decide ((0 : Int) ≤ x1)) (cond (decide ((x1 : Int) < (((x10).length : Nat) : Int))) (cond ((((rd47 x10 x1)).f0).toList == (x0).toList) (some x1) (go (.j2 x0 (w64 (x1 + 1)) x2 x3 x4 x5 x6 x7 x8 x9 x10))) none) none) (some (-1)))
noncomputable def start71 (go : J71 → Option (Int)) : S34 × ByteArray → Option (Int)
  | (x0, x1) => (go (.j2 x1 0 (x0).f0 (x0).f1 (x0).f2 (x0).f3 (x0).f4 (x0).f5 (x0).f6 (x0).f7 (x0).f8))
noncomputable def f71 (k : Nat) : S34 × ByteArray → Option (Int) := start71 (run (step71) k)
theorem st71 (E : Bool) (G : List Item → St TT → Option (Int)) (p : J71) : evFrom (F71 E) G 3000 (td71 p) (em71 p) = step71 (fun q => G (td71 q) (em71 q)) p := by
  cases p <;> kernel_rfl
theorem en71 (E : Bool) (G : List Item → St TT → Option (Int)) (a : S34 × ByteArray) : ev (F71 E) G 3000 [.code (bodyOf Try.f71)] (st0 ((Dl.cons (Dc.agg (uu E) 34) (Dl.one (Dc.str (UU E)))).en a)) = start71 (fun q => G (td71 q) (em71 q)) a := by
  obtain ⟨x0, x1⟩ := a
  kernel_rfl
theorem snd71 (E : Bool) (k : Nat) : Snd Try.prog (UU E) 71 (W (Dl.cons (Dc.agg (uu E) 34) (Dl.one (Dc.str (UU E)))) (f71 k) (Dc.int (UU E) .i64)) := by
  refine snd_fn (F := F71 E) (fn := Try.f71) (body := bodyOf Try.f71) ⟨(uu E), tbl_ok trivial, mixed⟩ rfl rfl (by kernel_rfl) (by kernel_rfl) (by kernel_rfl) rfl rfl rfl (fun a => Nat.le_of_ble_eq_true rfl) ?_
  intro a r h
  refine ⟨3000, k, ?_⟩
  rw [en71]
  rw [show (fun q => evJ (F71 E) 3000 k (td71 q) (em71 q)) = run (step71) k from funext fun q => evJ_run _ _ _ (st71 E) k q]
  exact h
noncomputable def F52 (E : Bool) (g70 : S27 × S52 × Int × Int → Option (Int)) (g71 : S34 × ByteArray → Option (Int)) : Fn TT (Int × Int) := ⟨Try.prog, (UU E), tbl [(70, .plain (W (Dl.cons (Dc.agg (uu E) 27) (Dl.cons (Dc.agg (uu E) 55) (Dl.cons (Dc.int (UU E) .i64) (Dl.one (Dc.int (UU E) .i64))))) g70 (Dc.int (UU E) .i64))), (71, .plain (W (Dl.cons (Dc.agg (uu E) 34) (Dl.one (Dc.str (UU E)))) g71 (Dc.int (UU E) .i64)))], Try.f52.ntmps, Try.f52.results.toList, [3, 3], true, 0, annOf [], finD (Dc.tup (Dl.cons (Dc.int (UU E) .i64) (Dl.one (Dc.int (UU E) .i64))))⟩
noncomputable def start52 (g70 : S27 × S52 × Int × Int → Option (Int)) (g71 : S34 × ByteArray → Option (Int)) : S27 × S52 × Int × ByteArray → Option (Int × Int)
  | (x0, x1, x2, x3) => (((g70 ((x0), ((x1), (x2, 1))))).bind fun r0 => (cond ((r0 : Int) != 0) (some ((-1), r0)) (cond (decide ((0 : Int) ≤ x2)) (cond (decide ((x2 : Int) < ((((x0).f0).length : Nat) : Int))) (((g71 (((rd34 (x0).f0 x2)), x3))).bind fun r1 => (cond (decide ((r1 : Int) < 0)) (some ((-1), 2)) (cond (decide ((0 : Int) ≤ x2)) (cond (decide ((x2 : Int) < ((((x0).f0).length : Nat) : Int))) (cond (decide ((0 : Int) ≤ r1)) (cond (decide ((r1 : Int) < (((((rd34 (x0).f0 x2)).f8).length : Nat) : Int))) (some (((rd47 ((rd34 (x0).f0 x2)).f8 r1)).f1, 0)) none) none) none) none))) none) none)))
noncomputable def f52 (k : Nat) : S27 × S52 × Int × ByteArray → Option (Int × Int) := start52 (f70 k) (f71 k)
theorem en52 (E : Bool) (g70 : S27 × S52 × Int × Int → Option (Int)) (g71 : S34 × ByteArray → Option (Int)) (G : List Item → St TT → Option (Int × Int)) (a : S27 × S52 × Int × ByteArray) : ev (F52 E g70 g71) G 3000 [.code (bodyOf Try.f52)] (st0 ((Dl.cons (Dc.agg (uu E) 27) (Dl.cons (Dc.agg (uu E) 55) (Dl.cons (Dc.int (UU E) .i64) (Dl.one (Dc.str (UU E)))))).en a)) = start52 g70 g71 a := by
  obtain ⟨x0, x1, x2, x3⟩ := a
  kernel_rfl
theorem snd52 (E : Bool) (k : Nat) : Snd Try.prog (UU E) 52 (W (Dl.cons (Dc.agg (uu E) 27) (Dl.cons (Dc.agg (uu E) 55) (Dl.cons (Dc.int (UU E) .i64) (Dl.one (Dc.str (UU E)))))) (f52 k) (Dc.tup (Dl.cons (Dc.int (UU E) .i64) (Dl.one (Dc.int (UU E) .i64))))) := by
  refine snd_fn (F := F52 E (f70 k) (f71 k)) (fn := Try.f52) (body := bodyOf Try.f52) ⟨(uu E), tbl_ok ⟨snd70 E k, snd71 E k, trivial⟩, mixed⟩ rfl rfl (by kernel_rfl) (by kernel_rfl) (by kernel_rfl) rfl rfl rfl (fun a => Nat.le_of_ble_eq_true rfl) ?_
  intro a r h
  refine ⟨3000, k, ?_⟩
  rw [en52]
  exact h
noncomputable def F24 (E : Bool) (g16 : S27 → Option (Bool)) (g44 : S27 × Int → Option (Bool)) (g50 : S52 → Option (Bool)) (g51 : ByteArray → Option (Bool)) (g52 : S27 × S52 × Int × ByteArray → Option (Int × Int)) : Fn TT (Int × Int) := ⟨Try.prog, (UU E), tbl [(16, .plain (W (Dl.one (Dc.agg (uu E) 27)) g16 (Dc.bool (UU E)))), (44, .plain (W (Dl.cons (Dc.agg (uu E) 27) (Dl.one (Dc.int (UU E) .i64))) g44 (Dc.bool (UU E)))), (50, .plain (W (Dl.one (Dc.agg (uu E) 55)) g50 (Dc.bool (UU E)))), (51, .plain (W (Dl.one (Dc.str (UU E))) g51 (Dc.bool (UU E)))), (52, .plain (W (Dl.cons (Dc.agg (uu E) 27) (Dl.cons (Dc.agg (uu E) 55) (Dl.cons (Dc.int (UU E) .i64) (Dl.one (Dc.str (UU E)))))) g52 (Dc.tup (Dl.cons (Dc.int (UU E) .i64) (Dl.one (Dc.int (UU E) .i64))))))], Try.f24.ntmps, Try.f24.results.toList, [3, 3], true, 0, annOf [], finD (Dc.tup (Dl.cons (Dc.int (UU E) .i64) (Dl.one (Dc.int (UU E) .i64))))⟩
noncomputable def start24 (g16 : S27 → Option (Bool)) (g44 : S27 × Int → Option (Bool)) (g50 : S52 → Option (Bool)) (g51 : ByteArray → Option (Bool)) (g52 : S27 × S52 × Int × ByteArray → Option (Int × Int)) : S27 × S52 × Int × ByteArray → Option (Int × Int)
  | (x0, x1, x2, x3) => (((g16 (x0))).bind fun r0 => (cond (!r0) (some ((-1), 1)) (((g50 (x1))).bind fun r1 => (cond (!r1) (some ((-1), 1)) (((g44 ((x0), x2))).bind fun r2 => (cond (!r2) (some ((-1), 1)) (((g51 x3)).bind fun r3 => (cond (!r3) (some ((-1), 1)) (((g52 ((x0), ((x1), (x2, x3))))).bind fun r4 => (some ((r4).fst, (r4).snd)))))))))))
noncomputable def f24 (k : Nat) : S27 × S52 × Int × ByteArray → Option (Int × Int) := start24 (f16 k) (f44 k) (f50 k) (f51 k) (f52 k)
theorem en24 (E : Bool) (g16 : S27 → Option (Bool)) (g44 : S27 × Int → Option (Bool)) (g50 : S52 → Option (Bool)) (g51 : ByteArray → Option (Bool)) (g52 : S27 × S52 × Int × ByteArray → Option (Int × Int)) (G : List Item → St TT → Option (Int × Int)) (a : S27 × S52 × Int × ByteArray) : ev (F24 E g16 g44 g50 g51 g52) G 3000 [.code (bodyOf Try.f24)] (st0 ((Dl.cons (Dc.agg (uu E) 27) (Dl.cons (Dc.agg (uu E) 55) (Dl.cons (Dc.int (UU E) .i64) (Dl.one (Dc.str (UU E)))))).en a)) = start24 g16 g44 g50 g51 g52 a := by
  obtain ⟨x0, x1, x2, x3⟩ := a
  kernel_rfl
theorem snd24 (E : Bool) (k : Nat) : Snd Try.prog (UU E) 24 (W (Dl.cons (Dc.agg (uu E) 27) (Dl.cons (Dc.agg (uu E) 55) (Dl.cons (Dc.int (UU E) .i64) (Dl.one (Dc.str (UU E)))))) (f24 k) (Dc.tup (Dl.cons (Dc.int (UU E) .i64) (Dl.one (Dc.int (UU E) .i64))))) := by
  refine snd_fn (F := F24 E (f16 k) (f44 k) (f50 k) (f51 k) (f52 k)) (fn := Try.f24) (body := bodyOf Try.f24) ⟨(uu E), tbl_ok ⟨snd16 E k, snd44 E k, snd50 E k, snd51 E k, snd52 E k, trivial⟩, mixed⟩ rfl rfl (by kernel_rfl) (by kernel_rfl) (by kernel_rfl) rfl rfl rfl (fun a => Nat.le_of_ble_eq_true rfl) ?_
  intro a r h
  refine ⟨3000, k, ?_⟩
  rw [en24]
  exact h
noncomputable def F33 (E : Bool) : Fn TT (Bool) := ⟨Try.prog, (UU E), tbl [], Try.f33.ntmps, Try.f33.results.toList, [4], true, 0, annOf [], finD (Dc.bool (UU E))⟩
noncomputable def start33 : Int × Int × Int → Option (Bool)
  | (x0, x1, x2) => (cond (decide ((x0 : Int) ≥ x1)) (some (decide ((x0 : Int) ≤ x2))) (some false))
noncomputable def f33 (k : Nat) : Int × Int × Int → Option (Bool) := start33
theorem en33 (E : Bool) (G : List Item → St TT → Option (Bool)) (a : Int × Int × Int) : ev (F33 E) G 3000 [.code (bodyOf Try.f33)] (st0 ((Dl.cons (Dc.int (UU E) .i64) (Dl.cons (Dc.int (UU E) .i64) (Dl.one (Dc.int (UU E) .i64)))).en a)) = start33 a := by
  obtain ⟨x0, x1, x2⟩ := a
  kernel_rfl
theorem snd33 (E : Bool) (k : Nat) : Snd Try.prog (UU E) 33 (W (Dl.cons (Dc.int (UU E) .i64) (Dl.cons (Dc.int (UU E) .i64) (Dl.one (Dc.int (UU E) .i64)))) (f33 k) (Dc.bool (UU E))) := by
  refine snd_fn (F := F33 E) (fn := Try.f33) (body := bodyOf Try.f33) ⟨(uu E), tbl_ok trivial, mixed⟩ rfl rfl (by kernel_rfl) (by kernel_rfl) (by kernel_rfl) rfl rfl rfl (fun a => Nat.le_of_ble_eq_true rfl) ?_
  intro a r h
  refine ⟨3000, k, ?_⟩
  rw [en33]
  exact h
noncomputable def F37 (E : Bool) : Fn TT (Bool) := ⟨Try.prog, (UU E), tbl [], Try.f37.ntmps, Try.f37.results.toList, [4], true, 0, annOf [], finD (Dc.bool (UU E))⟩
noncomputable def start37 : S34 → Option (Bool)
  | x0 => (cond (((x0).f0 : Int) == 0) (cond (((x0).f1 : Int) == 0) (cond (((x0).f2 : Int) == 0) (cond (((x0).f3 : Int) == 0) (cond (((x0).f4 : Int) == 0) (cond (((x0).f5 : Int) == 0) (cond (!(x0).f6) (cond (((x0).f7).toList == ((⟨#[]⟩ : ByteArray)).toList) (some ((((((x0).f8).length : Nat) : Int) : Int) == 0)) (some false)) (some false)) (some false)) (some false)) (some false)) (some false)) (some false)) (some false))
noncomputable def f37 (k : Nat) : S34 → Option (Bool) := start37
theorem en37 (E : Bool) (G : List Item → St TT → Option (Bool)) (a : S34) : ev (F37 E) G 3000 [.code (bodyOf Try.f37)] (st0 ((Dl.one (Dc.agg (uu E) 34)).en a)) = start37 a := by
  kernel_rfl
theorem snd37 (E : Bool) (k : Nat) : Snd Try.prog (UU E) 37 (W (Dl.one (Dc.agg (uu E) 34)) (f37 k) (Dc.bool (UU E))) := by
  refine snd_fn (F := F37 E) (fn := Try.f37) (body := bodyOf Try.f37) ⟨(uu E), tbl_ok trivial, mixed⟩ rfl rfl (by kernel_rfl) (by kernel_rfl) (by kernel_rfl) rfl rfl rfl (fun a => Nat.le_of_ble_eq_true rfl) ?_
  intro a r h
  refine ⟨3000, k, ?_⟩
  rw [en37]
  exact h
noncomputable def F14 (E : Bool) (g33 : Int × Int × Int → Option (Bool)) (g37 : S34 → Option (Bool)) (g38 : ByteArray → Option (Bool)) : Fn TT (Bool) := ⟨Try.prog, (UU E), tbl [(33, .plain (W (Dl.cons (Dc.int (UU E) .i64) (Dl.cons (Dc.int (UU E) .i64) (Dl.one (Dc.int (UU E) .i64)))) g33 (Dc.bool (UU E)))), (37, .plain (W (Dl.one (Dc.agg (uu E) 34)) g37 (Dc.bool (UU E)))), (38, .plain (W (Dl.one (Dc.str (UU E))) g38 (Dc.bool (UU E))))], Try.f14.ntmps, Try.f14.results.toList, [4], true, 0, annOf [(3, [1]), (6, [1, 3, 4, 28, 29, 30]), (13, [1, 3, 4, 5, 6, 28, 29, 30]), (15, [1, 3, 4, 5, 6, 28, 29, 30]), (16, [1, 3, 4, 5, 6, 28, 29, 30, 105, 106, 107]), (20, [1, 3, 4, 5, 6, 8, 28, 29, 30, 105, 106, 107]), (23, [1, 3, 4, 28, 29, 30]), (25, [3, 4, 163, 164, 165]), (30, [3, 4, 9, 10, 163, 164, 165]), (31, [3, 4, 9, 10, 163, 164, 165]), (33, [3, 4, 9, 10, 163, 164, 165]), (36, [3, 4, 11, 12, 163, 164, 165]), (41, [3, 4, 163, 164, 165])], finD (Dc.bool (UU E))⟩
inductive J14 where
  | j3 (x0 : (List S34))
  | j6 (x0 : (List S34)) (x1 : Int) (x2 : Int) (x3 : (List S34)) (x4 : (List Int)) (x5 : (List Int))
  | j23 (x0 : (List S34)) (x1 : Int) (x2 : Int) (x3 : (List S34)) (x4 : (List Int)) (x5 : (List Int))
  | j13 (x0 : Int) (x1 : (List S34)) (x2 : Int) (x3 : Int) (x4 : (List S34)) (x5 : (List Int)) (x6 : (List Int)) (x7 : Int) (x8 : Int) (x9 : Int) (x10 : Int) (x11 : Int) (x12 : Int) (x13 : Bool) (x14 : ByteArray) (x15 : (List S47))
  | j25 (x0 : (List S34)) (x1 : Int) (x2 : Int) (x3 : (List Int)) (x4 : (List Int))
  | j15 (x0 : Int) (x1 : (List S34)) (x2 : Int) (x3 : Int) (x4 : (List S34)) (x5 : (List Int)) (x6 : (List Int)) (x7 : Int) (x8 : Int) (x9 : Int) (x10 : Int) (x11 : Int) (x12 : Int) (x13 : Bool) (x14 : ByteArray) (x15 : (List S47))
  | j41 (x0 : (List S34)) (x1 : Int) (x2 : Int) (x3 : (List Int)) (x4 : (List Int))
  | j33 (x0 : Int) (x1 : (List S34)) (x2 : Int) (x3 : Int) (x4 : (List Int)) (x5 : (List Int)) (x6 : Int) (x7 : Int) (x8 : Int) (x9 : Int) (x10 : Int) (x11 : Int) (x12 : Bool) (x13 : ByteArray) (x14 : (List S47))
  | j30 (x0 : Int) (x1 : (List S34)) (x2 : Int) (x3 : Int) (x4 : (List Int)) (x5 : (List Int)) (x6 : Int) (x7 : Int) (x8 : Int) (x9 : Int) (x10 : Int) (x11 : Int) (x12 : Bool) (x13 : ByteArray) (x14 : (List S47))
  | j16 (x0 : Int) (x1 : (List S34)) (x2 : Int) (x3 : Int) (x4 : (List S47)) (x5 : Int) (x6 : Int) (x7 : (List S34)) (x8 : (List Int)) (x9 : (List Int)) (x10 : Int) (x11 : Int) (x12 : Int) (x13 : Int) (x14 : Int) (x15 : Int) (x16 : Bool) (x17 : ByteArray) (x18 : (List S47))
  | j36 (x0 : Int) (x1 : Int) (x2 : (List S34)) (x3 : Int) (x4 : Int) (x5 : (List Int)) (x6 : (List Int))
  | j31 (x0 : Int) (x1 : (List S34)) (x2 : Int) (x3 : Int) (x4 : (List Int)) (x5 : (List Int)) (x6 : Int) (x7 : Int) (x8 : Int) (x9 : Int) (x10 : Int) (x11 : Int) (x12 : Bool) (x13 : ByteArray) (x14 : (List S47))
  | j20 (x0 : Int) (x1 : (List S34)) (x2 : Int) (x3 : Int) (x4 : (List S47)) (x5 : Int) (x6 : Int) (x7 : (List S34)) (x8 : (List Int)) (x9 : (List Int)) (x10 : Int) (x11 : Int) (x12 : Int) (x13 : Int) (x14 : Int) (x15 : Int) (x16 : Bool) (x17 : ByteArray) (x18 : (List S47)) (x19 : ByteArray) (x20 : Int)
noncomputable def td14 : J14 → List Item
  | .j3 _ => fnd 3 (bodyOf Try.f14) []
  | .j6 _ _ _ _ _ _ => fnd 6 (bodyOf Try.f14) []
  | .j23 _ _ _ _ _ _ => fnd 23 (bodyOf Try.f14) []
  | .j13 _ _ _ _ _ _ _ _ _ _ _ _ _ _ _ _ => fnd 13 (bodyOf Try.f14) []
  | .j25 _ _ _ _ _ => fnd 25 (bodyOf Try.f14) []
  | .j15 _ _ _ _ _ _ _ _ _ _ _ _ _ _ _ _ => fnd 15 (bodyOf Try.f14) []
  | .j41 _ _ _ _ _ => fnd 41 (bodyOf Try.f14) []
  | .j33 _ _ _ _ _ _ _ _ _ _ _ _ _ _ _ => fnd 33 (bodyOf Try.f14) []
  | .j30 _ _ _ _ _ _ _ _ _ _ _ _ _ _ _ => fnd 30 (bodyOf Try.f14) []
  | .j16 _ _ _ _ _ _ _ _ _ _ _ _ _ _ _ _ _ _ _ => fnd 16 (bodyOf Try.f14) []
  | .j36 _ _ _ _ _ _ _ => fnd 36 (bodyOf Try.f14) []
  | .j31 _ _ _ _ _ _ _ _ _ _ _ _ _ _ _ => fnd 31 (bodyOf Try.f14) []
  | .j20 _ _ _ _ _ _ _ _ _ _ _ _ _ _ _ _ _ _ _ _ _ => fnd 20 (bodyOf Try.f14) []
noncomputable def em14 : J14 → St TT
  | .j3 x0 => ⟨[(1, .ptr 0 0)], [(0, .cells 27 [.row 34 x0])], 1⟩
  | .j6 x0 x1 x2 x3 x4 x5 => ⟨[(1, .ptr 0 0), (3, .own 1), (4, .own 2), (28, .row 34 x0), (29, .v (.int .i64 x1)), (30, .v (.int .i64 x2))], [(0, .cells 27 [.row 34 x3]), (1, .arr 3 x4), (2, .arr 3 x5)], 3⟩
  | .j23 x0 x1 x2 x3 x4 x5 => ⟨[(1, .ptr 0 0), (3, .own 1), (4, .own 2), (28, .row 34 x0), (29, .v (.int .i64 x1)), (30, .v (.int .i64 x2))], [(0, .cells 27 [.row 34 x3]), (1, .arr 3 x4), (2, .arr 3 x5)], 3⟩
  | .j13 x0 x1 x2 x3 x4 x5 x6 x7 x8 x9 x10 x11 x12 x13 x14 x15 => ⟨[(1, .ptr 0 0), (3, .own 1), (4, .own 2), (5, .v (.int .i64 x0)), (6, .ptr 3 0), (28, .row 34 x1), (29, .v (.int .i64 x2)), (30, .v (.int .i64 x3))], [(0, .cells 27 [.row 34 x4]), (1, .arr 3 x5), (2, .arr 3 x6), (3, .cells 34 [.v (.int .i64 x7), .v (.int .i64 x8), .v (.int .i64 x9), .v (.int .i64 x10), .v (.int .i64 x11), .v (.int .i64 x12), .v (.bool x13), .v (.string x14), .row 47 x15])], 4⟩
  | .j25 x0 x1 x2 x3 x4 => ⟨[(3, .own 0), (4, .own 1), (163, .row 34 x0), (164, .v (.int .i64 x1)), (165, .v (.int .i64 x2))], [(0, .arr 3 x3), (1, .arr 3 x4)], 2⟩
  | .j15 x0 x1 x2 x3 x4 x5 x6 x7 x8 x9 x10 x11 x12 x13 x14 x15 => ⟨[(1, .ptr 0 0), (3, .own 1), (4, .own 2), (5, .v (.int .i64 x0)), (6, .ptr 3 0), (28, .row 34 x1), (29, .v (.int .i64 x2)), (30, .v (.int .i64 x3))], [(0, .cells 27 [.row 34 x4]), (1, .arr 3 x5), (2, .arr 3 x6), (3, .cells 34 [.v (.int .i64 x7), .v (.int .i64 x8), .v (.int .i64 x9), .v (.int .i64 x10), .v (.int .i64 x11), .v (.int .i64 x12), .v (.bool x13), .v (.string x14), .row 47 x15])], 4⟩
  | .j41 x0 x1 x2 x3 x4 => ⟨[(3, .own 0), (4, .own 1), (163, .row 34 x0), (164, .v (.int .i64 x1)), (165, .v (.int .i64 x2))], [(0, .arr 3 x3), (1, .arr 3 x4)], 2⟩
  | .j33 x0 x1 x2 x3 x4 x5 x6 x7 x8 x9 x10 x11 x12 x13 x14 => ⟨[(3, .own 0), (4, .own 1), (9, .v (.int .i64 x0)), (10, .ptr 2 0), (163, .row 34 x1), (164, .v (.int .i64 x2)), (165, .v (.int .i64 x3))], [(0, .arr 3 x4), (1, .arr 3 x5), (2, .cells 34 [.v (.int .i64 x6), .v (.int .i64 x7), .v (.int .i64 x8), .v (.int .i64 x9), .v (.int .i64 x10), .v (.int .i64 x11), .v (.bool x12), .v (.string x13), .row 47 x14])], 3⟩
  | .j30 x0 x1 x2 x3 x4 x5 x6 x7 x8 x9 x10 x11 x12 x13 x14 => ⟨[(3, .own 0), (4, .own 1), (9, .v (.int .i64 x0)), (10, .ptr 2 0), (163, .row 34 x1), (164, .v (.int .i64 x2)), (165, .v (.int .i64 x3))], [(0, .arr 3 x4), (1, .arr 3 x5), (2, .cells 34 [.v (.int .i64 x6), .v (.int .i64 x7), .v (.int .i64 x8), .v (.int .i64 x9), .v (.int .i64 x10), .v (.int .i64 x11), .v (.bool x12), .v (.string x13), .row 47 x14])], 3⟩
  | .j16 x0 x1 x2 x3 x4 x5 x6 x7 x8 x9 x10 x11 x12 x13 x14 x15 x16 x17 x18 => ⟨[(1, .ptr 0 0), (3, .own 1), (4, .own 2), (5, .v (.int .i64 x0)), (6, .ptr 3 0), (28, .row 34 x1), (29, .v (.int .i64 x2)), (30, .v (.int .i64 x3)), (105, .row 47 x4), (106, .v (.int .i64 x5)), (107, .v (.int .i64 x6))], [(0, .cells 27 [.row 34 x7]), (1, .arr 3 x8), (2, .arr 3 x9), (3, .cells 34 [.v (.int .i64 x10), .v (.int .i64 x11), .v (.int .i64 x12), .v (.int .i64 x13), .v (.int .i64 x14), .v (.int .i64 x15), .v (.bool x16), .v (.string x17), .row 47 x18])], 4⟩
  | .j36 x0 x1 x2 x3 x4 x5 x6 => ⟨[(3, .own 0), (4, .own 1), (11, .v (.int .i64 x0)), (12, .v (.int .i64 x1)), (163, .row 34 x2), (164, .v (.int .i64 x3)), (165, .v (.int .i64 x4))], [(0, .arr 3 x5), (1, .arr 3 x6)], 2⟩
  | .j31 x0 x1 x2 x3 x4 x5 x6 x7 x8 x9 x10 x11 x12 x13 x14 => ⟨[(3, .own 0), (4, .own 1), (9, .v (.int .i64 x0)), (10, .ptr 2 0), (163, .row 34 x1), (164, .v (.int .i64 x2)), (165, .v (.int .i64 x3))], [(0, .arr 3 x4), (1, .arr 3 x5), (2, .cells 34 [.v (.int .i64 x6), .v (.int .i64 x7), .v (.int .i64 x8), .v (.int .i64 x9), .v (.int .i64 x10), .v (.int .i64 x11), .v (.bool x12), .v (.string x13), .row 47 x14])], 3⟩
  | .j20 x0 x1 x2 x3 x4 x5 x6 x7 x8 x9 x10 x11 x12 x13 x14 x15 x16 x17 x18 x19 x20 => ⟨[(1, .ptr 0 0), (3, .own 1), (4, .own 2), (5, .v (.int .i64 x0)), (6, .ptr 3 0), (8, .ptr 4 0), (28, .row 34 x1), (29, .v (.int .i64 x2)), (30, .v (.int .i64 x3)), (105, .row 47 x4), (106, .v (.int .i64 x5)), (107, .v (.int .i64 x6))], [(0, .cells 27 [.row 34 x7]), (1, .arr 3 x8), (2, .arr 3 x9), (3, .cells 34 [.v (.int .i64 x10), .v (.int .i64 x11), .v (.int .i64 x12), .v (.int .i64 x13), .v (.int .i64 x14), .v (.int .i64 x15), .v (.bool x16), .v (.string x17), .row 47 x18]), (4, .cells 47 [.v (.string x19), .v (.int .i64 x20)])], 5⟩
noncomputable def step14 (g33 : Int × Int × Int → Option (Bool)) (g37 : S34 → Option (Bool)) (g38 : ByteArray → Option (Bool)) (go : J14 → Option (Bool)) : J14 → Option (Bool)
  | .j3 x0 => (go (.j6 x0 (((x0).length : Nat) : Int) 0 x0 (List.replicate 10 0) (List.replicate 10 0)))
  | .j6 x0 x1 x2 x3 x4 x5 => (cond (decide ((x2 : Int) < x1)) (cond (decide ((0 : Int) ≤ x2)) (cond (decide ((x2 : Int) < (((x0).length : Nat) : Int))) (cond ((((rd34 x0 x2)).f0 : Int) == 0) (((g37 ((rd34 x0 x2)))).bind fun r0 => (cond (!r0) (some false) (go (.j23 x0 x1 x2 x3 x4 x5)))) (((g33 (((rd34 x0 x2)).f0, (1, 2)))).bind fun r1 => (cond (!r1) (some false) (((g33 (((rd34 x0 x2)).f1, (0, 511)))).bind fun r2 => (cond (!r2) (some false) (((g33 (((rd34 x0 x2)).f2, (0, 9)))).bind fun r3 => (cond (!r3) (some false) (((g33 (((rd34 x0 x2)).f3, (0, 9)))).bind fun r4 => (cond (!r4) (some false) (((g33 (((rd34 x0 x2)).f5, (0, 99)))).bind fun r5 => (cond (!r5) (some false) (go (.j13 x2 x0 x1 x2 x3 x4 x5 ((rd34 x0 x2)).f0 ((rd34 x0 x2)).f1 ((rd34 x0 x2)).f2 ((rd34 x0 x2)).f3 ((rd34 x0 x2)).f4 ((rd34 x0 x2)).f5 ((rd34 x0 x2)).f6 ((rd34 x0 x2)).f7 ((rd34 x0 x2)).f8))))))))))))) none) none) (go (.j25 x3 (((x3).length : Nat) : Int) 0 x4 x5)))
  | .j23 x0 x1 x2 x3 x4 x5 => (go (.j6 x0 x1 (w64 (x2 + 1)) x3 x4 x5))
  | .j13 x0 x1 x2 x3 x4 x5 x6 x7 x8 x9 x10 x11 x12 x13 x14 x15 => (cond ((x7 : Int) == 1) (cond (decide (((((x14).size : Nat) : Int) : Int) > 40)) (some false) (cond (decide (((((x15).length : Nat) : Int) : Int) > 0)) (some false) (cond ((x7 : Int) == 2) (cond (!((x14).toList == ((⟨#[]⟩ : ByteArray)).toList)) (some false) (cond x13 (some false) (cond (decide (((((x15).length : Nat) : Int) : Int) > 6)) (some false) (go (.j15 x0 x1 x2 x3 x4 x5 x6 x7 x8 x9 x10 x11 x12 x13 x14 x15))))) (go (.j15 x0 x1 x2 x3 x4 x5 x6 x7 x8 x9 x10 x11 x12 x13 x14 x15))))) (cond ((x7 : Int) == 2) (cond (!((x14).toList == ((⟨#[]⟩ : ByteArray)).toList)) (some false) (cond x13 (some false) (cond (decide (((((x15).length : Nat) : Int) : Int) > 6)) (some false) (go (.j15 x0 x1 x2 x3 x4 x5 x6 x7 x8 x9 x10 x11 x12 x13 x14 x15))))) (go (.j15 x0 x1 x2 x3 x4 x5 x6 x7 x8 x9 x10 x11 x12 x13 x14 x15))))
  | .j25 x0 x1 x2 x3 x4 => (cond (decide ((x2 : Int) < x1)) (cond (decide ((0 : Int) ≤ x2)) (cond (decide ((x2 : Int) < (((x0).length : Nat) : Int))) (cond ((((rd34 x0 x2)).f0 : Int) == 0) (go (.j41 x0 x1 x2 x3 x4)) (cond (decide ((0 : Int) ≤ x2)) (cond (decide ((x2 : Int) < (((x3).length : Nat) : Int))) (cond (decide ((0 : Int) ≤ x2)) (cond (decide ((x2 : Int) < (((x3).length : Nat) : Int))) (cond ((((rd34 x0 x2)).f4 : Int) != (rd3 x3 x2)) (cond ((((rd34 x0 x2)).f4 : Int) != (rd3 x3 x2)) (some false) (go (.j33 x2 x0 x1 x2 x3 x4 ((rd34 x0 x2)).f0 ((rd34 x0 x2)).f1 ((rd34 x0 x2)).f2 ((rd34 x0 x2)).f3 ((rd34 x0 x2)).f4 ((rd34 x0 x2)).f5 ((rd34 x0 x2)).f6 ((rd34 x0 x2)).f7 ((rd34 x0 x2)).f8))) (cond ((((rd34 x0 x2)).f0 : Int) == 1) (cond ((((rd34 x0 x2)).f4 : Int) == 0) (cond ((((rd34 x0 x2)).f5 : Int) == 0) (cond ((((rd34 x0 x2)).f5 : Int) == 0) (some false) (go (.j33 x2 x0 x1 x2 x3 x4 ((rd34 x0 x2)).f0 ((rd34 x0 x2)).f1 ((rd34 x0 x2)).f2 ((rd34 x0 x2)).f3 ((rd34 x0 x2)).f4 ((rd34 x0 x2)).f5 ((rd34 x0 x2)).f6 ((rd34 x0 x2)).f7 ((rd34 x0 x2)).f8))) (go (.j30 x2 x0 x1 x2 x3 x4 ((rd34 x0 x2)).f0 ((rd34 x0 x2)).f1 ((rd34 x0 x2)).f2 ((rd34 x0 x2)).f3 ((rd34 x0 x2)).f4 ((rd34 x0 x2)).f5 ((rd34 x0 x2)).f6 ((rd34 x0 x2)).f7 ((rd34 x0 x2)).f8))) (go (.j30 x2 x0 x1 x2 x3 x4 ((rd34 x0 x2)).f0 ((rd34 x0 x2)).f1 ((rd34 x0 x2)).f2 ((rd34 x0 x2)).f3 ((rd34 x0 x2)).f4 ((rd34 x0 x2)).f5 ((rd34 x0 x2)).f6 ((rd34 x0 x2)).f7 ((rd34 x0 x2)).f8))) (go (.j30 x2 x0 x1 x2 x3 x4 ((rd34 x0 x2)).f0 ((rd34 x0 x2)).f1 ((rd34 x0 x2)).f2 ((rd34 x0 x2)).f3 ((rd34 x0 x2)).f4 ((rd34 x0 x2)).f5 ((rd34 x0 x2)).f6 ((rd34 x0 x2)).f7 ((rd34 x0 x2)).f8)))) none) none) none) none)) none) none) (some true))
  | .j15 x0 x1 x2 x3 x4 x5 x6 x7 x8 x9 x10 x11 x12 x13 x14 x15 => (go (.j16 x0 x1 x2 x3 x15 (((x15).length : Nat) : Int) 0 x4 x5 x6 x7 x8 x9 x10 x11 x12 x13 x14 x15))
  | .j41 x0 x1 x2 x3 x4 => (go (.j25 x0 x1 (w64 (x2 + 1)) x3 x4))
  | .j33 x0 x1 x2 x3 x4 x5 x6 x7 x8 x9 x10 x11 x12 x13 x14 => (cond ((x6 : Int) == 2) (go (.j36 x0 0 x1 x2 x3 x4 x5)) (go (.j41 x1 x2 x3 x4 x5)))
  | .j30 x0 x1 x2 x3 x4 x5 x6 x7 x8 x9 x10 x11 x12 x13 x14 => (cond ((x6 : Int) == 2) (cond (decide ((x0 : Int) > 0)) (cond ((x10 : Int) != 1) (cond ((x10 : Int) != 1) (some false) (go (.j33 x0 x1 x2 x3 x4 x5 x6 x7 x8 x9 x10 x11 x12 x13 x14))) (go (.j31 x0 x1 x2 x3 x4 x5 x6 x7 x8 x9 x10 x11 x12 x13 x14))) (go (.j31 x0 x1 x2 x3 x4 x5 x6 x7 x8 x9 x10 x11 x12 x13 x14))) (go (.j31 x0 x1 x2 x3 x4 x5 x6 x7 x8 x9 x10 x11 x12 x13 x14)))
  | .j16 x0 x1 x2 x3 x4 x5 x6 x7 x8 x9 x10 x11 x12 x13 x14 x15 x16 x17 x18 => (cond (decide ((x6 : Int) < x5)) (cond (decide ((0 : Int) ≤ x6)) (cond (decide ((x6 : Int) < (((x4).length : Nat) : Int))) (((g38 ((rd47 x4 x6)).f0)).bind fun r6 => (cond (!r6) (some false) (((g33 (((rd47 x4 x6)).f1, (0, 9)))).bind fun r7 => (cond (!r7) (some false) (cond (decide ((0 : Int) ≤ ((rd47 x4 x6)).f1)) (cond (decide ((((rd47 x4 x6)).f1 : Int) < (((x7).length : Nat) : Int))) (cond ((((rd34 x7 ((rd47 x4 x6)).f1)).f0 : Int) == 0) (some false) (cond (decide ((x6 : Int) > 0)) (cond (decide ((0 : Int) ≤ (w64 (x6 - 1)))) (cond (decide (((w64 (x6 - 1)) : Int) < (((x18).length : Nat) : Int))) (cond (!(Go.Op.bytesLess (((rd47 x18 (w64 (x6 - 1)))).f0).toList (((rd47 x4 x6)).f0).toList)) (some false) (go (.j20 x0 x1 x2 x3 x4 x5 x6 x7 x8 x9 x10 x11 x12 x13 x14 x15 x16 x17 x18 ((rd47 x4 x6)).f0 ((rd47 x4 x6)).f1))) none) none) (go (.j20 x0 x1 x2 x3 x4 x5 x6 x7 x8 x9 x10 x11 x12 x13 x14 x15 x16 x17 x18 ((rd47 x4 x6)).f0 ((rd47 x4 x6)).f1)))) none) none))))) none) none) (go (.j23 x1 x2 x3 x7 x8 x9)))
  | .j36 x0 x1 x2 x3 x4 x5 x6 => (cond ((x0 : Int) != 0) (cond (decide ((x1 : Int) > 10)) (some false) (cond (decide ((0 : Int) ≤ x0)) (cond (decide ((x0 : Int) < (((x6).length : Nat) : Int))) (cond (decide ((0 : Int) ≤ x0)) (cond (decide ((x0 : Int) < (((x6).length : Nat) : Int))) (go (.j36 (rd3 x6 x0) (w64 (x1 + 1)) x2 x3 x4 x5 x6)) none) none) none) none)) (go (.j41 x2 x3 x4 x5 x6)))
  | .j31 x0 x1 x2 x3 x4 x5 x6 x7 x8 x9 x10 x11 x12 x13 x14 => (cond ((x0 : Int) == 0) (cond ((x10 : Int) != 0) (some false) (go (.j33 x0 x1 x2 x3 x4 x5 x6 x7 x8 x9 x10 x11 x12 x13 x14))) (go (.j33 x0 x1 x2 x3 x4 x5 x6 x7 x8 x9 x10 x11 x12 x13 x14)))
  | .j20 x0 x1 x2 x3 x4 x5 x6 x7 x8 x9 x10 x11 x12 x13 x14 x15 x16 x17 x18 x19 x20 => (cond (decide ((0 : Int) ≤ x20)) (cond (decide ((x20 : Int) < (((x8).length : Nat) : Int))) (cond (decide ((0 : Int) ≤ x20)) (cond (decide ((x20 : Int) < (((x8).length : Nat) : Int))) (cond (decide ((0 : Int) ≤ x20)) (cond (decide ((x20 : Int) < (((x8).length : Nat) : Int))) (cond (decide ((0 : Int) ≤ x20)) (cond (decide ((x20 : Int) < (((x8).length : Nat) : Int))) (cond (decide ((0 : Int) ≤ x20)) (cond (decide ((x20 : Int) < (((x9).length : Nat) : Int))) (cond (decide ((0 : Int) ≤ x20)) (cond (decide ((x20 : Int) < (((x9).length : Nat) : Int))) (go (.j16 x0 x1 x2 x3 x4 x5 (w64 (x6 + 1)) x7 (List.set x8 (x20).toNat (w64 ((rd3 x8 x20) + 1))) (List.set x9 (x20).toNat x0) x10 x11 x12 x13 x14 x15 x16 x17 x18)) none) none) none) none) none) none) none) none) none) none) none) none)
noncomputable def start14 (g33 : Int × Int × Int → Option (Bool)) (g37 : S34 → Option (Bool)) (g38 : ByteArray → Option (Bool)) (go : J14 → Option (Bool)) : S27 → Option (Bool)
  | x0 => (cond ((((((x0).f0).length : Nat) : Int) : Int) != 10) (some false) (cond (decide ((0 : Int) < ((((x0).f0).length : Nat) : Int))) (cond ((((rd34 (x0).f0 0)).f0 : Int) != 2) (some false) (go (.j3 (x0).f0))) none))
noncomputable def f14 (k : Nat) : S27 → Option (Bool) := start14 (f33 k) (f37 k) (f38 k) (run (step14 (f33 k) (f37 k) (f38 k)) k)
theorem st14 (E : Bool) (g33 : Int × Int × Int → Option (Bool)) (g37 : S34 → Option (Bool)) (g38 : ByteArray → Option (Bool)) (G : List Item → St TT → Option (Bool)) (p : J14) : evFrom (F14 E g33 g37 g38) G 3000 (td14 p) (em14 p) = step14 g33 g37 g38 (fun q => G (td14 q) (em14 q)) p := by
  cases p <;> kernel_rfl
theorem en14 (E : Bool) (g33 : Int × Int × Int → Option (Bool)) (g37 : S34 → Option (Bool)) (g38 : ByteArray → Option (Bool)) (G : List Item → St TT → Option (Bool)) (a : S27) : ev (F14 E g33 g37 g38) G 3000 [.code (bodyOf Try.f14)] (st0 ((Dl.one (Dc.agg (uu E) 27)).en a)) = start14 g33 g37 g38 (fun q => G (td14 q) (em14 q)) a := by
  kernel_rfl
theorem snd14 (E : Bool) (k : Nat) : Snd Try.prog (UU E) 14 (W (Dl.one (Dc.agg (uu E) 27)) (f14 k) (Dc.bool (UU E))) := by
  refine snd_fn (F := F14 E (f33 k) (f37 k) (f38 k)) (fn := Try.f14) (body := bodyOf Try.f14) ⟨(uu E), tbl_ok ⟨snd33 E k, snd37 E k, snd38 E k, trivial⟩, mixed⟩ rfl rfl (by kernel_rfl) (by kernel_rfl) (by kernel_rfl) rfl rfl rfl (fun a => Nat.le_of_ble_eq_true rfl) ?_
  intro a r h
  refine ⟨3000, k, ?_⟩
  rw [en14]
  rw [show (fun q => evJ (F14 E (f33 k) (f37 k) (f38 k)) 3000 k (td14 q) (em14 q)) = run (step14 (f33 k) (f37 k) (f38 k)) k from funext fun q => evJ_run _ _ _ (st14 E (f33 k) (f37 k) (f38 k)) k q]
  exact h
noncomputable def F46 (E : Bool) (g33 : Int × Int × Int → Option (Bool)) : Fn TT (Bool) := ⟨Try.prog, (UU E), tbl [(33, .plain (W (Dl.cons (Dc.int (UU E) .i64) (Dl.cons (Dc.int (UU E) .i64) (Dl.one (Dc.int (UU E) .i64)))) g33 (Dc.bool (UU E))))], Try.f46.ntmps, Try.f46.results.toList, [4], true, 0, annOf [], finD (Dc.bool (UU E))⟩
noncomputable def start46 (g33 : Int × Int × Int → Option (Bool)) : S27 × Int → Option (Bool)
  | (x0, x1) => (((g33 (x1, (0, (w64 (((((x0).f0).length : Nat) : Int) - 1)))))).bind fun r0 => (cond r0 (cond (decide ((0 : Int) ≤ x1)) (cond (decide ((x1 : Int) < ((((x0).f0).length : Nat) : Int))) (some ((((rd34 (x0).f0 x1)).f0 : Int) != 0)) none) none) (some false)))
noncomputable def f46 (k : Nat) : S27 × Int → Option (Bool) := start46 (f33 k)
theorem en46 (E : Bool) (g33 : Int × Int × Int → Option (Bool)) (G : List Item → St TT → Option (Bool)) (a : S27 × Int) : ev (F46 E g33) G 3000 [.code (bodyOf Try.f46)] (st0 ((Dl.cons (Dc.agg (uu E) 27) (Dl.one (Dc.int (UU E) .i64))).en a)) = start46 g33 a := by
  obtain ⟨x0, x1⟩ := a
  kernel_rfl
theorem snd46 (E : Bool) (k : Nat) : Snd Try.prog (UU E) 46 (W (Dl.cons (Dc.agg (uu E) 27) (Dl.one (Dc.int (UU E) .i64))) (f46 k) (Dc.bool (UU E))) := by
  refine snd_fn (F := F46 E (f33 k)) (fn := Try.f46) (body := bodyOf Try.f46) ⟨(uu E), tbl_ok ⟨snd33 E k, trivial⟩, mixed⟩ rfl rfl (by kernel_rfl) (by kernel_rfl) (by kernel_rfl) rfl rfl rfl (fun a => Nat.le_of_ble_eq_true rfl) ?_
  intro a r h
  refine ⟨3000, k, ?_⟩
  rw [en46]
  exact h
noncomputable def F60 (E : Bool) (g33 : Int × Int × Int → Option (Bool)) : Fn TT (Bool) := ⟨Try.prog, (UU E), tbl [(33, .plain (W (Dl.cons (Dc.int (UU E) .i64) (Dl.cons (Dc.int (UU E) .i64) (Dl.one (Dc.int (UU E) .i64)))) g33 (Dc.bool (UU E))))], Try.f60.ntmps, Try.f60.results.toList, [4], true, 0, annOf [(2, [1, 6, 7, 8]), (6, [1, 6, 7, 8])], finD (Dc.bool (UU E))⟩
inductive J60 where
  | j2 (x0 : (List Int)) (x1 : Int) (x2 : Int) (x3 : Int) (x4 : Int) (x5 : (List Int))
  | j6 (x0 : (List Int)) (x1 : Int) (x2 : Int) (x3 : Int) (x4 : Int) (x5 : (List Int))
noncomputable def td60 : J60 → List Item
  | .j2 _ _ _ _ _ _ => fnd 2 (bodyOf Try.f60) []
  | .j6 _ _ _ _ _ _ => fnd 6 (bodyOf Try.f60) []
noncomputable def em60 : J60 → St TT
  | .j2 x0 x1 x2 x3 x4 x5 => ⟨[(1, .ptr 0 0), (6, .row 3 x0), (7, .v (.int .i64 x1)), (8, .v (.int .i64 x2))], [(0, .cells 55 [.v (.int .i64 x3), .v (.int .i64 x4), .row 3 x5])], 1⟩
  | .j6 x0 x1 x2 x3 x4 x5 => ⟨[(1, .ptr 0 0), (6, .row 3 x0), (7, .v (.int .i64 x1)), (8, .v (.int .i64 x2))], [(0, .cells 55 [.v (.int .i64 x3), .v (.int .i64 x4), .row 3 x5])], 1⟩
noncomputable def step60 (g33 : Int × Int × Int → Option (Bool)) (go : J60 → Option (Bool)) : J60 → Option (Bool)
  | .j2 x0 x1 x2 x3 x4 x5 => (cond (decide ((x2 : Int) < x1)) (cond (decide ((0 : Int) ≤ x2)) (cond (decide ((x2 : Int) < (((x0).length : Nat) : Int))) (((g33 ((rd3 x0 x2), (0, 9)))).bind fun r0 => (cond (!r0) (some false) (cond (decide ((x2 : Int) > 0)) (cond (decide ((0 : Int) ≤ (w64 (x2 - 1)))) (cond (decide (((w64 (x2 - 1)) : Int) < (((x5).length : Nat) : Int))) (cond (decide (((rd3 x5 (w64 (x2 - 1))) : Int) ≥ (rd3 x0 x2))) (some false) (go (.j6 x0 x1 x2 x3 x4 x5))) none) none) (go (.j6 x0 x1 x2 x3 x4 x5))))) none) none) (((g33 (x3, (0, 9)))).bind fun r1 => (cond r1 (((g33 (x4, (0, 9)))).bind fun r2 => (cond r2 (some (decide (((((x5).length : Nat) : Int) : Int) ≤ 3))) (some false))) (some false))))
  | .j6 x0 x1 x2 x3 x4 x5 => (go (.j2 x0 x1 (w64 (x2 + 1)) x3 x4 x5))
noncomputable def start60 (g33 : Int × Int × Int → Option (Bool)) (go : J60 → Option (Bool)) : S52 → Option (Bool)
  | x0 => (go (.j2 (x0).f2 ((((x0).f2).length : Nat) : Int) 0 (x0).f0 (x0).f1 (x0).f2))
noncomputable def f60 (k : Nat) : S52 → Option (Bool) := start60 (f33 k) (run (step60 (f33 k)) k)
theorem st60 (E : Bool) (g33 : Int × Int × Int → Option (Bool)) (G : List Item → St TT → Option (Bool)) (p : J60) : evFrom (F60 E g33) G 3000 (td60 p) (em60 p) = step60 g33 (fun q => G (td60 q) (em60 q)) p := by
  cases p <;> kernel_rfl
theorem en60 (E : Bool) (g33 : Int × Int × Int → Option (Bool)) (G : List Item → St TT → Option (Bool)) (a : S52) : ev (F60 E g33) G 3000 [.code (bodyOf Try.f60)] (st0 ((Dl.one (Dc.agg (uu E) 55)).en a)) = start60 g33 (fun q => G (td60 q) (em60 q)) a := by
  kernel_rfl
theorem snd60 (E : Bool) (k : Nat) : Snd Try.prog (UU E) 60 (W (Dl.one (Dc.agg (uu E) 55)) (f60 k) (Dc.bool (UU E))) := by
  refine snd_fn (F := F60 E (f33 k)) (fn := Try.f60) (body := bodyOf Try.f60) ⟨(uu E), tbl_ok ⟨snd33 E k, trivial⟩, mixed⟩ rfl rfl (by kernel_rfl) (by kernel_rfl) (by kernel_rfl) rfl rfl rfl (fun a => Nat.le_of_ble_eq_true rfl) ?_
  intro a r h
  refine ⟨3000, k, ?_⟩
  rw [en60]
  rw [show (fun q => evJ (F60 E (f33 k)) 3000 k (td60 q) (em60 q)) = run (step60 (f33 k)) k from funext fun q => evJ_run _ _ _ (st60 E (f33 k)) k q]
  exact h
noncomputable def F54 (E : Bool) (g14 : S27 → Option (Bool)) (g46 : S27 × Int → Option (Bool)) (g60 : S52 → Option (Bool)) : Fn TT (Bool) := ⟨Try.prog, (UU E), tbl [(14, .plain (W (Dl.one (Dc.agg (uu E) 27)) g14 (Dc.bool (UU E)))), (46, .plain (W (Dl.cons (Dc.agg (uu E) 27) (Dl.one (Dc.int (UU E) .i64))) g46 (Dc.bool (UU E)))), (60, .plain (W (Dl.one (Dc.agg (uu E) 55)) g60 (Dc.bool (UU E))))], Try.f54.ntmps, Try.f54.results.toList, [4], true, 0, annOf [(3, [2, 3]), (4, [3, 17, 18, 19])], finD (Dc.bool (UU E))⟩
inductive J54 where
  | j3 (x0 : (List Int)) (x1 : (List S34))
  | j4 (x0 : (List Int)) (x1 : Int) (x2 : Int) (x3 : (List S34))
noncomputable def td54 : J54 → List Item
  | .j3 _ _ => fnd 3 (bodyOf Try.f54) []
  | .j4 _ _ _ _ => fnd 4 (bodyOf Try.f54) []
noncomputable def em54 : J54 → St TT
  | .j3 x0 x1 => ⟨[(2, .row 3 x0), (3, .ptr 0 0)], [(0, .cells 27 [.row 34 x1])], 1⟩
  | .j4 x0 x1 x2 x3 => ⟨[(3, .ptr 0 0), (17, .row 3 x0), (18, .v (.int .i64 x1)), (19, .v (.int .i64 x2))], [(0, .cells 27 [.row 34 x3])], 1⟩
noncomputable def step54 (g14 : S27 → Option (Bool)) (g46 : S27 × Int → Option (Bool)) (g60 : S52 → Option (Bool)) (go : J54 → Option (Bool)) : J54 → Option (Bool)
  | .j3 x0 x1 => (go (.j4 x0 (((x0).length : Nat) : Int) 0 x1))
  | .j4 x0 x1 x2 x3 => (cond (decide ((x2 : Int) < x1)) (cond (decide ((0 : Int) ≤ x2)) (cond (decide ((x2 : Int) < (((x0).length : Nat) : Int))) (((g46 ((⟨x3⟩ : S27), (rd3 x0 x2)))).bind fun r2 => (cond (!r2) (some false) (go (.j4 x0 x1 (w64 (x2 + 1)) x3)))) none) none) (some true))
noncomputable def start54 (g14 : S27 → Option (Bool)) (g46 : S27 × Int → Option (Bool)) (g60 : S52 → Option (Bool)) (go : J54 → Option (Bool)) : S27 × S52 × (List Int) → Option (Bool)
  | (x0, x1, x2) => (((g14 (x0))).bind fun r0 => (cond (!r0) (some false) (((g60 (x1))).bind fun r1 => (cond (!r1) (some false) (go (.j3 x2 (x0).f0))))))
noncomputable def f54 (k : Nat) : S27 × S52 × (List Int) → Option (Bool) := start54 (f14 k) (f46 k) (f60 k) (run (step54 (f14 k) (f46 k) (f60 k)) k)
theorem st54 (E : Bool) (g14 : S27 → Option (Bool)) (g46 : S27 × Int → Option (Bool)) (g60 : S52 → Option (Bool)) (G : List Item → St TT → Option (Bool)) (p : J54) : evFrom (F54 E g14 g46 g60) G 3000 (td54 p) (em54 p) = step54 g14 g46 g60 (fun q => G (td54 q) (em54 q)) p := by
  cases p <;> kernel_rfl
theorem en54 (E : Bool) (g14 : S27 → Option (Bool)) (g46 : S27 × Int → Option (Bool)) (g60 : S52 → Option (Bool)) (G : List Item → St TT → Option (Bool)) (a : S27 × S52 × (List Int)) : ev (F54 E g14 g46 g60) G 3000 [.code (bodyOf Try.f54)] (st0 ((Dl.cons (Dc.agg (uu E) 27) (Dl.cons (Dc.agg (uu E) 55) (Dl.one (Dc.row (UU E) 3)))).en a)) = start54 g14 g46 g60 (fun q => G (td54 q) (em54 q)) a := by
  obtain ⟨x0, x1, x2⟩ := a
  kernel_rfl
theorem snd54 (E : Bool) (k : Nat) : Snd Try.prog (UU E) 54 (W (Dl.cons (Dc.agg (uu E) 27) (Dl.cons (Dc.agg (uu E) 55) (Dl.one (Dc.row (UU E) 3)))) (f54 k) (Dc.bool (UU E))) := by
  refine snd_fn (F := F54 E (f14 k) (f46 k) (f60 k)) (fn := Try.f54) (body := bodyOf Try.f54) ⟨(uu E), tbl_ok ⟨snd14 E k, snd46 E k, snd60 E k, trivial⟩, mixed⟩ rfl rfl (by kernel_rfl) (by kernel_rfl) (by kernel_rfl) rfl rfl rfl (fun a => Nat.le_of_ble_eq_true rfl) ?_
  intro a r h
  refine ⟨3000, k, ?_⟩
  rw [en54]
  rw [show (fun q => evJ (F54 E (f14 k) (f46 k) (f60 k)) 3000 k (td54 q) (em54 q)) = run (step54 (f14 k) (f46 k) (f60 k)) k from funext fun q => evJ_run _ _ _ (st54 E (f14 k) (f46 k) (f60 k)) k q]
  exact h
noncomputable def F61 (E : Bool) : Fn TT (Int) := ⟨Try.prog, (UU E), tbl [], Try.f61.ntmps, Try.f61.results.toList, [3], true, 0, annOf [], finD (Dc.int (UU E) .i64)⟩
noncomputable def start61 : Int × Int → Option (Int)
  | (x0, x1) => (cond (!(decide (((w64 (3 * (w64 (2 - x1)))) : Int) < 0))) (some (and_ Go.IntKind.i64 (shr_ Go.IntKind.i64 x0 (w64 (3 * (w64 (2 - x1))))) 7)) none)
noncomputable def f61 (k : Nat) : Int × Int → Option (Int) := start61
theorem en61 (E : Bool) (G : List Item → St TT → Option (Int)) (a : Int × Int) : ev (F61 E) G 3000 [.code (bodyOf Try.f61)] (st0 ((Dl.cons (Dc.int (UU E) .i64) (Dl.one (Dc.int (UU E) .i64))).en a)) = start61 a := by
  obtain ⟨x0, x1⟩ := a
  kernel_rfl
theorem snd61 (E : Bool) (k : Nat) : Snd Try.prog (UU E) 61 (W (Dl.cons (Dc.int (UU E) .i64) (Dl.one (Dc.int (UU E) .i64))) (f61 k) (Dc.int (UU E) .i64)) := by
  refine snd_fn (F := F61 E) (fn := Try.f61) (body := bodyOf Try.f61) ⟨(uu E), tbl_ok trivial, mixed⟩ rfl rfl (by kernel_rfl) (by kernel_rfl) (by kernel_rfl) rfl rfl rfl (fun a => Nat.le_of_ble_eq_true rfl) ?_
  intro a r h
  refine ⟨3000, k, ?_⟩
  rw [en61]
  exact h
noncomputable def F75 (E : Bool) : Fn TT (Int) := ⟨Try.prog, (UU E), tbl [], Try.f75.ntmps, Try.f75.results.toList, [3], true, 0, annOf [(2, [0, 1, 7, 8])], finD (Dc.int (UU E) .i64)⟩
inductive J75 where
  | j2 (x0 : (List Int)) (x1 : Int) (x2 : Int) (x3 : Int)
noncomputable def td75 : J75 → List Item
  | .j2 _ _ _ _ => fnd 2 (bodyOf Try.f75) []
noncomputable def em75 : J75 → St TT
  | .j2 x0 x1 x2 x3 => ⟨[(0, .row 3 x0), (1, .v (.int .i64 x1)), (7, .v (.int .i64 x2)), (8, .v (.int .i64 x3))], [], 0⟩
noncomputable def step75 (go : J75 → Option (Int)) : J75 → Option (Int)
  | .j2 x0 x1 x2 x3 => (cond (decide ((x3 : Int) < x2)) (cond (decide ((0 : Int) ≤ x3)) (cond (decide ((x3 : Int) < (((x0).length : Nat) : Int))) (cond ((x1 : Int) == (rd3 x0 x3)) (some x3) (go (.j2 x0 x1 x2 (w64 (x3 + 1))))) none) none) (some (-1)))
noncomputable def start75 (go : J75 → Option (Int)) : (List Int) × Int → Option (Int)
  | (x0, x1) => (go (.j2 x0 x1 (((x0).length : Nat) : Int) 0))
noncomputable def f75 (k : Nat) : (List Int) × Int → Option (Int) := start75 (run (step75) k)
theorem st75 (E : Bool) (G : List Item → St TT → Option (Int)) (p : J75) : evFrom (F75 E) G 3000 (td75 p) (em75 p) = step75 (fun q => G (td75 q) (em75 q)) p := by
  cases p <;> kernel_rfl
theorem en75 (E : Bool) (G : List Item → St TT → Option (Int)) (a : (List Int) × Int) : ev (F75 E) G 3000 [.code (bodyOf Try.f75)] (st0 ((Dl.cons (Dc.row (UU E) 3) (Dl.one (Dc.int (UU E) .i64))).en a)) = start75 (fun q => G (td75 q) (em75 q)) a := by
  obtain ⟨x0, x1⟩ := a
  kernel_rfl
theorem snd75 (E : Bool) (k : Nat) : Snd Try.prog (UU E) 75 (W (Dl.cons (Dc.row (UU E) 3) (Dl.one (Dc.int (UU E) .i64))) (f75 k) (Dc.int (UU E) .i64)) := by
  refine snd_fn (F := F75 E) (fn := Try.f75) (body := bodyOf Try.f75) ⟨(uu E), tbl_ok trivial, mixed⟩ rfl rfl (by kernel_rfl) (by kernel_rfl) (by kernel_rfl) rfl rfl rfl (fun a => Nat.le_of_ble_eq_true rfl) ?_
  intro a r h
  refine ⟨3000, k, ?_⟩
  rw [en75]
  rw [show (fun q => evJ (F75 E) 3000 k (td75 q) (em75 q)) = run (step75) k from funext fun q => evJ_run _ _ _ (st75 E) k q]
  exact h
noncomputable def F62 (E : Bool) (g75 : (List Int) × Int → Option (Int)) : Fn TT (Bool) := ⟨Try.prog, (UU E), tbl [(75, .plain (W (Dl.cons (Dc.row (UU E) 3) (Dl.one (Dc.int (UU E) .i64))) g75 (Dc.int (UU E) .i64)))], Try.f62.ntmps, Try.f62.results.toList, [4], true, 0, annOf [], finD (Dc.bool (UU E))⟩
noncomputable def start62 (g75 : (List Int) × Int → Option (Int)) : (List Int) × Int → Option (Bool)
  | (x0, x1) => (((g75 (x0, x1))).bind fun r0 => (some (decide ((r0 : Int) ≥ 0))))
noncomputable def f62 (k : Nat) : (List Int) × Int → Option (Bool) := start62 (f75 k)
theorem en62 (E : Bool) (g75 : (List Int) × Int → Option (Int)) (G : List Item → St TT → Option (Bool)) (a : (List Int) × Int) : ev (F62 E g75) G 3000 [.code (bodyOf Try.f62)] (st0 ((Dl.cons (Dc.row (UU E) 3) (Dl.one (Dc.int (UU E) .i64))).en a)) = start62 g75 a := by
  obtain ⟨x0, x1⟩ := a
  kernel_rfl
theorem snd62 (E : Bool) (k : Nat) : Snd Try.prog (UU E) 62 (W (Dl.cons (Dc.row (UU E) 3) (Dl.one (Dc.int (UU E) .i64))) (f62 k) (Dc.bool (UU E))) := by
  refine snd_fn (F := F62 E (f75 k)) (fn := Try.f62) (body := bodyOf Try.f62) ⟨(uu E), tbl_ok ⟨snd75 E k, trivial⟩, mixed⟩ rfl rfl (by kernel_rfl) (by kernel_rfl) (by kernel_rfl) rfl rfl rfl (fun a => Nat.le_of_ble_eq_true rfl) ?_
  intro a r h
  refine ⟨3000, k, ?_⟩
  rw [en62]
  exact h
noncomputable def F29 (E : Bool) (g33 : Int × Int × Int → Option (Bool)) (g60 : S52 → Option (Bool)) (g61 : Int × Int → Option (Int)) (g62 : (List Int) × Int → Option (Bool)) : Fn TT (Bool) := ⟨Try.prog, (UU E), tbl [(33, .plain (W (Dl.cons (Dc.int (UU E) .i64) (Dl.cons (Dc.int (UU E) .i64) (Dl.one (Dc.int (UU E) .i64)))) g33 (Dc.bool (UU E)))), (60, .plain (W (Dl.one (Dc.agg (uu E) 55)) g60 (Dc.bool (UU E)))), (61, .plain (W (Dl.cons (Dc.int (UU E) .i64) (Dl.one (Dc.int (UU E) .i64))) g61 (Dc.int (UU E) .i64))), (62, .plain (W (Dl.cons (Dc.row (UU E) 3) (Dl.one (Dc.int (UU E) .i64))) g62 (Dc.bool (UU E))))], Try.f29.ntmps, Try.f29.results.toList, [4], true, 0, annOf [(3, [1, 2, 3, 4, 5])], finD (Dc.bool (UU E))⟩
inductive J29 where
  | j3 (x0 : Int) (x1 : Int) (x2 : Int) (x3 : Int) (x4 : Int) (x5 : Int) (x6 : (List Int))
noncomputable def td29 : J29 → List Item
  | .j3 _ _ _ _ _ _ _ => fnd 3 (bodyOf Try.f29) []
noncomputable def em29 : J29 → St TT
  | .j3 x0 x1 x2 x3 x4 x5 x6 => ⟨[(1, .v (.int .i64 x0)), (2, .v (.int .i64 x1)), (3, .v (.int .i64 x2)), (4, .v (.int .i64 x3)), (5, .ptr 0 0)], [(0, .cells 55 [.v (.int .i64 x4), .v (.int .i64 x5), .row 3 x6])], 1⟩
noncomputable def step29 (g33 : Int × Int × Int → Option (Bool)) (g60 : S52 → Option (Bool)) (g61 : Int × Int → Option (Int)) (g62 : (List Int) × Int → Option (Bool)) (go : J29 → Option (Bool)) : J29 → Option (Bool)
  | .j3 x0 x1 x2 x3 x4 x5 x6 => (cond ((x4 : Int) == 0) (cond (((and_ Go.IntKind.i64 x3 1) : Int) == 0) (some true) (((g61 (x2, 0))).bind fun r5 => (((g61 (x2, 1))).bind fun r6 => (((g61 (x2, 2))).bind fun r7 => (some (((and_ Go.IntKind.i64 (or_ Go.IntKind.i64 (or_ Go.IntKind.i64 r5 r6) r7) 1) : Int) == 1)))))) (cond ((x4 : Int) == x0) (((g61 (x2, 0))).bind fun r8 => (some (((and_ Go.IntKind.i64 r8 x3) : Int) == x3))) (((g62 (x6, x1))).bind fun r9 => (cond r9 (((g61 (x2, 1))).bind fun r10 => (some (((and_ Go.IntKind.i64 r10 x3) : Int) == x3))) (((g61 (x2, 2))).bind fun r11 => (some (((and_ Go.IntKind.i64 r11 x3) : Int) == x3)))))))
noncomputable def start29 (g33 : Int × Int × Int → Option (Bool)) (g60 : S52 → Option (Bool)) (g61 : Int × Int → Option (Int)) (g62 : (List Int) × Int → Option (Bool)) (go : J29 → Option (Bool)) : S52 × Int × Int × Int × Int → Option (Bool)
  | (x0, x1, x2, x3, x4) => (((g60 (x0))).bind fun r0 => (cond (!r0) (some false) (((g33 (x1, (0, 9)))).bind fun r1 => (cond (!r1) (some false) (((g33 (x2, (0, 9)))).bind fun r2 => (cond (!r2) (some false) (((g33 (x3, (0, 511)))).bind fun r3 => (cond (!r3) (some false) (((g33 (x4, (1, 7)))).bind fun r4 => (cond (!r4) (some false) (go (.j3 x1 x2 x3 x4 (x0).f0 (x0).f1 (x0).f2))))))))))))
noncomputable def f29 (k : Nat) : S52 × Int × Int × Int × Int → Option (Bool) := start29 (f33 k) (f60 k) (f61 k) (f62 k) (run (step29 (f33 k) (f60 k) (f61 k) (f62 k)) k)
theorem st29 (E : Bool) (g33 : Int × Int × Int → Option (Bool)) (g60 : S52 → Option (Bool)) (g61 : Int × Int → Option (Int)) (g62 : (List Int) × Int → Option (Bool)) (G : List Item → St TT → Option (Bool)) (p : J29) : evFrom (F29 E g33 g60 g61 g62) G 3000 (td29 p) (em29 p) = step29 g33 g60 g61 g62 (fun q => G (td29 q) (em29 q)) p := by
  cases p <;> kernel_rfl
theorem en29 (E : Bool) (g33 : Int × Int × Int → Option (Bool)) (g60 : S52 → Option (Bool)) (g61 : Int × Int → Option (Int)) (g62 : (List Int) × Int → Option (Bool)) (G : List Item → St TT → Option (Bool)) (a : S52 × Int × Int × Int × Int) : ev (F29 E g33 g60 g61 g62) G 3000 [.code (bodyOf Try.f29)] (st0 ((Dl.cons (Dc.agg (uu E) 55) (Dl.cons (Dc.int (UU E) .i64) (Dl.cons (Dc.int (UU E) .i64) (Dl.cons (Dc.int (UU E) .i64) (Dl.one (Dc.int (UU E) .i64)))))).en a)) = start29 g33 g60 g61 g62 (fun q => G (td29 q) (em29 q)) a := by
  obtain ⟨x0, x1, x2, x3, x4⟩ := a
  kernel_rfl
theorem snd29 (E : Bool) (k : Nat) : Snd Try.prog (UU E) 29 (W (Dl.cons (Dc.agg (uu E) 55) (Dl.cons (Dc.int (UU E) .i64) (Dl.cons (Dc.int (UU E) .i64) (Dl.cons (Dc.int (UU E) .i64) (Dl.one (Dc.int (UU E) .i64)))))) (f29 k) (Dc.bool (UU E))) := by
  refine snd_fn (F := F29 E (f33 k) (f60 k) (f61 k) (f62 k)) (fn := Try.f29) (body := bodyOf Try.f29) ⟨(uu E), tbl_ok ⟨snd33 E k, snd60 E k, snd61 E k, snd62 E k, trivial⟩, mixed⟩ rfl rfl (by kernel_rfl) (by kernel_rfl) (by kernel_rfl) rfl rfl rfl (fun a => Nat.le_of_ble_eq_true rfl) ?_
  intro a r h
  refine ⟨3000, k, ?_⟩
  rw [en29]
  rw [show (fun q => evJ (F29 E (f33 k) (f60 k) (f61 k) (f62 k)) 3000 k (td29 q) (em29 q)) = run (step29 (f33 k) (f60 k) (f61 k) (f62 k)) k from funext fun q => evJ_run _ _ _ (st29 E (f33 k) (f60 k) (f61 k) (f62 k)) k q]
  exact h
noncomputable def F55 (E : Bool) (g29 : S52 × Int × Int × Int × Int → Option (Bool)) : Fn TT (Bool) := ⟨Try.prog, (UU E), tbl [(29, .plain (W (Dl.cons (Dc.agg (uu E) 55) (Dl.cons (Dc.int (UU E) .i64) (Dl.cons (Dc.int (UU E) .i64) (Dl.cons (Dc.int (UU E) .i64) (Dl.one (Dc.int (UU E) .i64)))))) g29 (Dc.bool (UU E))))], Try.f55.ntmps, Try.f55.results.toList, [4], true, 0, annOf [], finD (Dc.bool (UU E))⟩
noncomputable def start55 (g29 : S52 × Int × Int × Int × Int → Option (Bool)) : S34 × S52 × Int → Option (Bool)
  | (x0, x1, x2) => (((g29 ((x1), ((x0).f2, ((x0).f3, ((x0).f1, x2)))))).bind fun r0 => (some r0))
noncomputable def f55 (k : Nat) : S34 × S52 × Int → Option (Bool) := start55 (f29 k)
theorem en55 (E : Bool) (g29 : S52 × Int × Int × Int × Int → Option (Bool)) (G : List Item → St TT → Option (Bool)) (a : S34 × S52 × Int) : ev (F55 E g29) G 3000 [.code (bodyOf Try.f55)] (st0 ((Dl.cons (Dc.agg (uu E) 34) (Dl.cons (Dc.agg (uu E) 55) (Dl.one (Dc.int (UU E) .i64)))).en a)) = start55 g29 a := by
  obtain ⟨x0, x1, x2⟩ := a
  kernel_rfl
theorem snd55 (E : Bool) (k : Nat) : Snd Try.prog (UU E) 55 (W (Dl.cons (Dc.agg (uu E) 34) (Dl.cons (Dc.agg (uu E) 55) (Dl.one (Dc.int (UU E) .i64)))) (f55 k) (Dc.bool (UU E))) := by
  refine snd_fn (F := F55 E (f29 k)) (fn := Try.f55) (body := bodyOf Try.f55) ⟨(uu E), tbl_ok ⟨snd29 E k, trivial⟩, mixed⟩ rfl rfl (by kernel_rfl) (by kernel_rfl) (by kernel_rfl) rfl rfl rfl (fun a => Nat.le_of_ble_eq_true rfl) ?_
  intro a r h
  refine ⟨3000, k, ?_⟩
  rw [en55]
  exact h
noncomputable def F74 (E : Bool) (g89 : ByteArray × ByteArray → Option (Int)) : Fn TT (Int) := ⟨Try.prog, (UU E), tbl [(89, .plain (W (Dl.cons (Dc.str (UU E)) (Dl.one (Dc.str (UU E)))) g89 (Dc.int (UU E) .i64)))], Try.f74.ntmps, Try.f74.results.toList, [3], true, 0, annOf [], finD (Dc.int (UU E) .i64)⟩
noncomputable def start74 (g89 : ByteArray × ByteArray → Option (Int)) : ByteArray × ByteArray → Option (Int)
  | (x0, x1) => (((g89 (x0, x1))).bind fun r0 => (some r0))
noncomputable def f74 (k : Nat) : ByteArray × ByteArray → Option (Int) := start74 (f89 k)
theorem en74 (E : Bool) (g89 : ByteArray × ByteArray → Option (Int)) (G : List Item → St TT → Option (Int)) (a : ByteArray × ByteArray) : ev (F74 E g89) G 3000 [.code (bodyOf Try.f74)] (st0 ((Dl.cons (Dc.str (UU E)) (Dl.one (Dc.str (UU E)))).en a)) = start74 g89 a := by
  obtain ⟨x0, x1⟩ := a
  kernel_rfl
theorem snd74 (E : Bool) (k : Nat) : Snd Try.prog (UU E) 74 (W (Dl.cons (Dc.str (UU E)) (Dl.one (Dc.str (UU E)))) (f74 k) (Dc.int (UU E) .i64)) := by
  refine snd_fn (F := F74 E (f89 k)) (fn := Try.f74) (body := bodyOf Try.f74) ⟨(uu E), tbl_ok ⟨snd89 E k, trivial⟩, mixed⟩ rfl rfl (by kernel_rfl) (by kernel_rfl) (by kernel_rfl) rfl rfl rfl (fun a => Nat.le_of_ble_eq_true rfl) ?_
  intro a r h
  refine ⟨3000, k, ?_⟩
  rw [en74]
  exact h
noncomputable def F73 (E : Bool) (g74 : ByteArray × ByteArray → Option (Int)) : Fn TT (Int) := ⟨Try.prog, (UU E), tbl [(74, .plain (W (Dl.cons (Dc.str (UU E)) (Dl.one (Dc.str (UU E)))) g74 (Dc.int (UU E) .i64)))], Try.f73.ntmps, Try.f73.results.toList, [3], true, 0, annOf [], finD (Dc.int (UU E) .i64)⟩
noncomputable def start73 (g74 : ByteArray × ByteArray → Option (Int)) : S47 × ByteArray → Option (Int)
  | (x0, x1) => (((g74 ((x0).f0, x1))).bind fun r0 => (some r0))
noncomputable def f73 (k : Nat) : S47 × ByteArray → Option (Int) := start73 (f74 k)
theorem en73 (E : Bool) (g74 : ByteArray × ByteArray → Option (Int)) (G : List Item → St TT → Option (Int)) (a : S47 × ByteArray) : ev (F73 E g74) G 3000 [.code (bodyOf Try.f73)] (st0 ((Dl.cons (Dc.agg (uu E) 47) (Dl.one (Dc.str (UU E)))).en a)) = start73 g74 a := by
  obtain ⟨x0, x1⟩ := a
  kernel_rfl
theorem snd73 (E : Bool) (k : Nat) : Snd Try.prog (UU E) 73 (W (Dl.cons (Dc.agg (uu E) 47) (Dl.one (Dc.str (UU E)))) (f73 k) (Dc.int (UU E) .i64)) := by
  refine snd_fn (F := F73 E (f74 k)) (fn := Try.f73) (body := bodyOf Try.f73) ⟨(uu E), tbl_ok ⟨snd74 E k, trivial⟩, mixed⟩ rfl rfl (by kernel_rfl) (by kernel_rfl) (by kernel_rfl) rfl rfl rfl (fun a => Nat.le_of_ble_eq_true rfl) ?_
  intro a r h
  refine ⟨3000, k, ?_⟩
  rw [en73]
  exact h
noncomputable def F72 (E : Bool) (g73 : S47 × ByteArray → Option (Int)) : Fn TT (Int × Bool) := ⟨Try.prog, (UU E), tbl [(73, .plain (W (Dl.cons (Dc.agg (uu E) 47) (Dl.one (Dc.str (UU E)))) g73 (Dc.int (UU E) .i64)))], Try.f72.ntmps, Try.f72.results.toList, [3, 4], true, 0, annOf [(3, [0, 1, 2, 8, 9, 10])], finD (Dc.tup (Dl.cons (Dc.int (UU E) .i64) (Dl.one (Dc.bool (UU E)))))⟩
inductive J72 where
  | j3 (x0 : (List S47)) (x1 : ByteArray) (x2 : Int) (x3 : Int) (x4 : Int)
noncomputable def td72 : J72 → List Item
  | .j3 _ _ _ _ _ => fnd 3 (bodyOf Try.f72) []
noncomputable def em72 : J72 → St TT
  | .j3 x0 x1 x2 x3 x4 => ⟨[(0, .row 47 x0), (1, .v (.string x1)), (2, .v (.func (.func 73) #[] #[])), (8, .v (.int .i64 x2)), (9, .v (.int .i64 x3)), (10, .v (.int .i64 x4))], [], 0⟩
noncomputable def step72 (g73 : S47 × ByteArray → Option (Int)) (go : J72 → Option (Int × Bool)) : J72 → Option (Int × Bool)
  | .j3 x0 x1 x2 x3 x4 => (cond (decide ((x3 : Int) < x4)) (cond (decide ((0 : Int) ≤ (w64 (shr_ Go.IntKind.u64 (IntKind.wrap .u64 (w64 (x3 + x4))) 1)))) (cond (decide (((w64 (shr_ Go.IntKind.u64 (IntKind.wrap .u64 (w64 (x3 + x4))) 1)) : Int) < (((x0).length : Nat) : Int))) (((g73 (((rd47 x0 (w64 (shr_ Go.IntKind.u64 (IntKind.wrap .u64 (w64 (x3 + x4))) 1)))), x1))).bind fun r0 => (cond (decide ((r0 : Int) < 0)) (go (.j3 x0 x1 x2 (w64 ((w64 (shr_ Go.IntKind.u64 (IntKind.wrap .u64 (w64 (x3 + x4))) 1)) + 1)) x4)) (go (.j3 x0 x1 x2 x3 (w64 (shr_ Go.IntKind.u64 (IntKind.wrap .u64 (w64 (x3 + x4))) 1)))))) none) none) (cond (decide ((x3 : Int) < x2)) (cond (decide ((0 : Int) ≤ x3)) (cond (decide ((x3 : Int) < (((x0).length : Nat) : Int))) (((g73 (((rd47 x0 x3)), x1))).bind fun r1 => (some (x3, ((r1 : Int) == 0)))) none) none) (some (x3, false))))
noncomputable def start72 (g73 : S47 × ByteArray → Option (Int)) (go : J72 → Option (Int × Bool)) : (List S47) × ByteArray × Unit → Option (Int × Bool)
  | (x0, x1, x2) => (go (.j3 x0 x1 (((x0).length : Nat) : Int) 0 (((x0).length : Nat) : Int)))
noncomputable def f72 (k : Nat) : (List S47) × ByteArray × Unit → Option (Int × Bool) := start72 (f73 k) (run (step72 (f73 k)) k)
theorem st72 (E : Bool) (g73 : S47 × ByteArray → Option (Int)) (G : List Item → St TT → Option (Int × Bool)) (p : J72) : evFrom (F72 E g73) G 3000 (td72 p) (em72 p) = step72 g73 (fun q => G (td72 q) (em72 q)) p := by
  cases p <;> kernel_rfl
theorem en72 (E : Bool) (g73 : S47 × ByteArray → Option (Int)) (G : List Item → St TT → Option (Int × Bool)) (a : (List S47) × ByteArray × Unit) : ev (F72 E g73) G 3000 [.code (bodyOf Try.f72)] (st0 ((Dl.cons (Dc.row (UU E) 47) (Dl.cons (Dc.str (UU E)) (Dl.one (Dc.fn (UU E) 73)))).en a)) = start72 g73 (fun q => G (td72 q) (em72 q)) a := by
  obtain ⟨x0, x1, x2⟩ := a
  kernel_rfl
theorem snd72 (E : Bool) (k : Nat) : Snd Try.prog (UU E) 72 (W (Dl.cons (Dc.row (UU E) 47) (Dl.cons (Dc.str (UU E)) (Dl.one (Dc.fn (UU E) 73)))) (f72 k) (Dc.tup (Dl.cons (Dc.int (UU E) .i64) (Dl.one (Dc.bool (UU E)))))) := by
  refine snd_fn (F := F72 E (f73 k)) (fn := Try.f72) (body := bodyOf Try.f72) ⟨(uu E), tbl_ok ⟨snd73 E k, trivial⟩, mixed⟩ rfl rfl (by kernel_rfl) (by kernel_rfl) (by kernel_rfl) rfl rfl rfl (fun a => Nat.le_of_ble_eq_true rfl) ?_
  intro a r h
  refine ⟨3000, k, ?_⟩
  rw [en72]
  rw [show (fun q => evJ (F72 E (f73 k)) 3000 k (td72 q) (em72 q)) = run (step72 (f73 k)) k from funext fun q => evJ_run _ _ _ (st72 E (f73 k)) k q]
  exact h
noncomputable def F56 (E : Bool) (g72 : (List S47) × ByteArray × Unit → Option (Int × Bool)) (g73 : S47 × ByteArray → Option (Int)) : Fn TT (Int × Bool) := ⟨Try.prog, (UU E), tbl [(72, .plain (W (Dl.cons (Dc.row (UU E) 47) (Dl.cons (Dc.str (UU E)) (Dl.one (Dc.fn (UU E) 73)))) g72 (Dc.tup (Dl.cons (Dc.int (UU E) .i64) (Dl.one (Dc.bool (UU E))))))), (73, .plain (W (Dl.cons (Dc.agg (uu E) 47) (Dl.one (Dc.str (UU E)))) g73 (Dc.int (UU E) .i64)))], Try.f56.ntmps, Try.f56.results.toList, [3, 4], true, 0, annOf [], finD (Dc.tup (Dl.cons (Dc.int (UU E) .i64) (Dl.one (Dc.bool (UU E)))))⟩
noncomputable def start56 (g72 : (List S47) × ByteArray × Unit → Option (Int × Bool)) (g73 : S47 × ByteArray → Option (Int)) : S34 × ByteArray → Option (Int × Bool)
  | (x0, x1) => (((g72 ((x0).f8, (x1, ())))).bind fun r0 => (some ((r0).fst, (r0).snd)))
noncomputable def f56 (k : Nat) : S34 × ByteArray → Option (Int × Bool) := start56 (f72 k) (f73 k)
theorem en56 (E : Bool) (g72 : (List S47) × ByteArray × Unit → Option (Int × Bool)) (g73 : S47 × ByteArray → Option (Int)) (G : List Item → St TT → Option (Int × Bool)) (a : S34 × ByteArray) : ev (F56 E g72 g73) G 3000 [.code (bodyOf Try.f56)] (st0 ((Dl.cons (Dc.agg (uu E) 34) (Dl.one (Dc.str (UU E)))).en a)) = start56 g72 g73 a := by
  obtain ⟨x0, x1⟩ := a
  kernel_rfl
theorem snd56 (E : Bool) (k : Nat) : Snd Try.prog (UU E) 56 (W (Dl.cons (Dc.agg (uu E) 34) (Dl.one (Dc.str (UU E)))) (f56 k) (Dc.tup (Dl.cons (Dc.int (UU E) .i64) (Dl.one (Dc.bool (UU E)))))) := by
  refine snd_fn (F := F56 E (f72 k) (f73 k)) (fn := Try.f56) (body := bodyOf Try.f56) ⟨(uu E), tbl_ok ⟨snd72 E k, snd73 E k, trivial⟩, mixed⟩ rfl rfl (by kernel_rfl) (by kernel_rfl) (by kernel_rfl) rfl rfl rfl (fun a => Nat.le_of_ble_eq_true rfl) ?_
  intro a r h
  refine ⟨3000, k, ?_⟩
  rw [en56]
  exact h
noncomputable def F26 (E : Bool) (g38 : ByteArray → Option (Bool)) (g54 : S27 × S52 × (List Int) → Option (Bool)) (g55 : S34 × S52 × Int → Option (Bool)) (g56 : S34 × ByteArray → Option (Int × Bool)) : Fn TT (Int × Int) := ⟨Try.prog, (UU E), tbl [(38, .plain (W (Dl.one (Dc.str (UU E))) g38 (Dc.bool (UU E)))), (54, .plain (W (Dl.cons (Dc.agg (uu E) 27) (Dl.cons (Dc.agg (uu E) 55) (Dl.one (Dc.row (UU E) 3)))) g54 (Dc.bool (UU E)))), (55, .plain (W (Dl.cons (Dc.agg (uu E) 34) (Dl.cons (Dc.agg (uu E) 55) (Dl.one (Dc.int (UU E) .i64)))) g55 (Dc.bool (UU E)))), (56, .plain (W (Dl.cons (Dc.agg (uu E) 34) (Dl.one (Dc.str (UU E)))) g56 (Dc.tup (Dl.cons (Dc.int (UU E) .i64) (Dl.one (Dc.bool (UU E)))))))], Try.f26.ntmps, Try.f26.results.toList, [3, 3], true, 0, annOf [(3, [2, 3, 4, 5])], finD (Dc.tup (Dl.cons (Dc.int (UU E) .i64) (Dl.one (Dc.int (UU E) .i64))))⟩
inductive J26 where
  | j3 (x0 : Int) (x1 : ByteArray) (x2 : (List S34)) (x3 : Int) (x4 : Int) (x5 : (List Int))
noncomputable def td26 : J26 → List Item
  | .j3 _ _ _ _ _ _ => fnd 3 (bodyOf Try.f26) []
noncomputable def em26 : J26 → St TT
  | .j3 x0 x1 x2 x3 x4 x5 => ⟨[(2, .v (.int .i64 x0)), (3, .v (.string x1)), (4, .ptr 0 0), (5, .ptr 1 0)], [(0, .cells 27 [.row 34 x2]), (1, .cells 55 [.v (.int .i64 x3), .v (.int .i64 x4), .row 3 x5])], 2⟩
noncomputable def step26 (g38 : ByteArray → Option (Bool)) (g54 : S27 × S52 × (List Int) → Option (Bool)) (g55 : S34 × S52 × Int → Option (Bool)) (g56 : S34 × ByteArray → Option (Int × Bool)) (go : J26 → Option (Int × Int)) : J26 → Option (Int × Int)
  | .j3 x0 x1 x2 x3 x4 x5 => (cond (decide ((0 : Int) ≤ x0)) (cond (decide ((x0 : Int) < (((x2).length : Nat) : Int))) (cond ((((rd34 x2 x0)).f0 : Int) != 2) (some ((-1), 4)) (((g55 (((rd34 x2 x0)), ((⟨x3, x4, x5⟩ : S52), 1)))).bind fun r2 => (cond (!r2) (some ((-1), 5)) (((g56 (((rd34 x2 x0)), x1))).bind fun r3 => (cond (!(r3).snd) (some ((-1), 2)) (cond (decide ((0 : Int) ≤ (r3).fst)) (cond (decide (((r3).fst : Int) < (((((rd34 x2 x0)).f8).length : Nat) : Int))) (some (((rd47 ((rd34 x2 x0)).f8 (r3).fst)).f1, 0)) none) none)))))) none) none)
noncomputable def start26 (g38 : ByteArray → Option (Bool)) (g54 : S27 × S52 × (List Int) → Option (Bool)) (g55 : S34 × S52 × Int → Option (Bool)) (g56 : S34 × ByteArray → Option (Int × Bool)) (go : J26 → Option (Int × Int)) : S27 × S52 × Int × ByteArray → Option (Int × Int)
  | (x0, x1, x2, x3) => (((g54 ((x0), ((x1), [x2])))).bind fun r0 => (cond (!r0) (some ((-1), 1)) (((g38 x3)).bind fun r1 => (cond (!r1) (some ((-1), 1)) (go (.j3 x2 x3 (x0).f0 (x1).f0 (x1).f1 (x1).f2))))))
noncomputable def f26 (k : Nat) : S27 × S52 × Int × ByteArray → Option (Int × Int) := start26 (f38 k) (f54 k) (f55 k) (f56 k) (run (step26 (f38 k) (f54 k) (f55 k) (f56 k)) k)
theorem st26 (E : Bool) (g38 : ByteArray → Option (Bool)) (g54 : S27 × S52 × (List Int) → Option (Bool)) (g55 : S34 × S52 × Int → Option (Bool)) (g56 : S34 × ByteArray → Option (Int × Bool)) (G : List Item → St TT → Option (Int × Int)) (p : J26) : evFrom (F26 E g38 g54 g55 g56) G 3000 (td26 p) (em26 p) = step26 g38 g54 g55 g56 (fun q => G (td26 q) (em26 q)) p := by
  cases p <;> kernel_rfl
theorem en26 (E : Bool) (g38 : ByteArray → Option (Bool)) (g54 : S27 × S52 × (List Int) → Option (Bool)) (g55 : S34 × S52 × Int → Option (Bool)) (g56 : S34 × ByteArray → Option (Int × Bool)) (G : List Item → St TT → Option (Int × Int)) (a : S27 × S52 × Int × ByteArray) : ev (F26 E g38 g54 g55 g56) G 3000 [.code (bodyOf Try.f26)] (st0 ((Dl.cons (Dc.agg (uu E) 27) (Dl.cons (Dc.agg (uu E) 55) (Dl.cons (Dc.int (UU E) .i64) (Dl.one (Dc.str (UU E)))))).en a)) = start26 g38 g54 g55 g56 (fun q => G (td26 q) (em26 q)) a := by
  obtain ⟨x0, x1, x2, x3⟩ := a
  kernel_rfl
theorem snd26 (E : Bool) (k : Nat) : Snd Try.prog (UU E) 26 (W (Dl.cons (Dc.agg (uu E) 27) (Dl.cons (Dc.agg (uu E) 55) (Dl.cons (Dc.int (UU E) .i64) (Dl.one (Dc.str (UU E)))))) (f26 k) (Dc.tup (Dl.cons (Dc.int (UU E) .i64) (Dl.one (Dc.int (UU E) .i64))))) := by
  refine snd_fn (F := F26 E (f38 k) (f54 k) (f55 k) (f56 k)) (fn := Try.f26) (body := bodyOf Try.f26) ⟨(uu E), tbl_ok ⟨snd38 E k, snd54 E k, snd55 E k, snd56 E k, trivial⟩, mixed⟩ rfl rfl (by kernel_rfl) (by kernel_rfl) (by kernel_rfl) rfl rfl rfl (fun a => Nat.le_of_ble_eq_true rfl) ?_
  intro a r h
  refine ⟨3000, k, ?_⟩
  rw [en26]
  rw [show (fun q => evJ (F26 E (f38 k) (f54 k) (f55 k) (f56 k)) 3000 k (td26 q) (em26 q)) = run (step26 (f38 k) (f54 k) (f55 k) (f56 k)) k from funext fun q => evJ_run _ _ _ (st26 E (f38 k) (f54 k) (f55 k) (f56 k)) k q]
  exact h
noncomputable def F30 (E : Bool) : Fn TT (S94 × Unit) := ⟨Try.prog, (UU E), tbl [], Try.f30.ntmps, Try.f30.results.toList, [62], false, 0, annOf [], finK (Dk.cel (Db.cells (uu E) 94) (Dk.nil (UU E)))⟩
noncomputable def start30 : (List Int) → Option (S94 × Unit)
  | x0 => (cond (decide (((((x0).length : Nat) : Int) : Int) > 2000)) (cond (decide ((2000 : Int) ≤ (((x0).length : Nat) : Int))) (some ((⟨(List.drop 0 (List.take 2000 x0)), 0⟩ : S94), ())) none) (some ((⟨x0, 0⟩ : S94), ())))
noncomputable def f30 (k : Nat) : (List Int) → Option (S94 × Unit) := start30
theorem en30 (E : Bool) (G : List Item → St TT → Option (S94 × Unit)) (a : (List Int)) : ev (F30 E) G 3000 [.code (bodyOf Try.f30)] (st0 ((Dl.one (Dc.row (UU E) 5)).en a)) = start30 a := by
  kernel_rfl
theorem snd30 (E : Bool) (k : Nat) : Snd Try.prog (UU E) 30 (WK (Dl.one (Dc.row (UU E) 5)) (f30 k) (Dk.cel (Db.cells (uu E) 94) (Dk.nil (UU E)))) := by
  refine sndK_fn (F := F30 E) (fn := Try.f30) (body := bodyOf Try.f30) ⟨(uu E), tbl_ok trivial, mixed⟩ rfl rfl (by kernel_rfl) (by kernel_rfl) (by kernel_rfl) rfl rfl rfl (fun a => Nat.le_of_ble_eq_true rfl) ?_
  intro a r h
  refine ⟨3000, k, ?_⟩
  rw [en30]
  exact h
noncomputable def F12 (E : Bool) (g34 : Int → Option (Bool)) (g35 : Int × Int × Int → Option (Bool)) : Fn TT (S27 × Bool × Unit) := ⟨Try.prog, (UU E), tbl [(34, .plain (W (Dl.one (Dc.int (UU E) .i64)) g34 (Dc.bool (UU E)))), (35, .plain (W (Dl.cons (Dc.int (UU E) .i64) (Dl.cons (Dc.int (UU E) .i64) (Dl.one (Dc.int (UU E) .i64)))) g35 (Dc.bool (UU E))))], Try.f12.ntmps, Try.f12.results.toList, [27, 4], false, 0, annOf [(3, [0, 1, 4])], finK (Dk.ago (uu E) 27 (Dk.val (Dc.bool (UU E)) (Dk.nil (UU E))))⟩
inductive J12 where
  | j3 (x0 : Int) (x1 : Int)
noncomputable def td12 : J12 → List Item
  | .j3 _ _ => fnd 3 (bodyOf Try.f12) []
noncomputable def em12 : J12 → St TT
  | .j3 x0 x1 => ⟨[(0, .v (.int .i64 x0)), (1, .v (.int .i64 x1)), (4, .ptr 0 0)], [(0, .cells 27 [.v (.slice none 0 0)])], 1⟩
noncomputable def step12 (g34 : Int → Option (Bool)) (g35 : Int × Int × Int → Option (Bool)) (go : J12 → Option (S27 × Bool × Unit)) : J12 → Option (S27 × Bool × Unit)
  | .j3 x0 x1 => (some ((⟨(List.set (List.replicate 10 (⟨0, 0, 0, 0, 0, 0, false, (⟨#[]⟩ : ByteArray), ([] : List S47)⟩ : S34)) 0 (⟨2, x1, x0, x0, 0, 0, false, (⟨#[]⟩ : ByteArray), ([] : List S47)⟩ : S34))⟩ : S27), (true, ())))
noncomputable def start12 (g34 : Int → Option (Bool)) (g35 : Int × Int × Int → Option (Bool)) (go : J12 → Option (S27 × Bool × Unit)) : Int × Int → Option (S27 × Bool × Unit)
  | (x0, x1) => (((g34 x0)).bind fun r0 => (cond (!r0) (some ((⟨([] : List S34)⟩ : S27), (false, ()))) (((g35 (x1, (0, 511)))).bind fun r1 => (cond (!r1) (some ((⟨([] : List S34)⟩ : S27), (false, ()))) (go (.j3 x0 x1))))))
noncomputable def f12 (k : Nat) : Int × Int → Option (S27 × Bool × Unit) := start12 (f34 k) (f35 k) (run (step12 (f34 k) (f35 k)) k)
theorem st12 (E : Bool) (g34 : Int → Option (Bool)) (g35 : Int × Int × Int → Option (Bool)) (G : List Item → St TT → Option (S27 × Bool × Unit)) (p : J12) : evFrom (F12 E g34 g35) G 3000 (td12 p) (em12 p) = step12 g34 g35 (fun q => G (td12 q) (em12 q)) p := by
  cases p <;> kernel_rfl
theorem en12 (E : Bool) (g34 : Int → Option (Bool)) (g35 : Int × Int × Int → Option (Bool)) (G : List Item → St TT → Option (S27 × Bool × Unit)) (a : Int × Int) : ev (F12 E g34 g35) G 3000 [.code (bodyOf Try.f12)] (st0 ((Dl.cons (Dc.int (UU E) .i64) (Dl.one (Dc.int (UU E) .i64))).en a)) = start12 g34 g35 (fun q => G (td12 q) (em12 q)) a := by
  obtain ⟨x0, x1⟩ := a
  kernel_rfl
theorem snd12 (E : Bool) (k : Nat) : Snd Try.prog (UU E) 12 (WK (Dl.cons (Dc.int (UU E) .i64) (Dl.one (Dc.int (UU E) .i64))) (f12 k) (Dk.ago (uu E) 27 (Dk.val (Dc.bool (UU E)) (Dk.nil (UU E))))) := by
  refine sndK_fn (F := F12 E (f34 k) (f35 k)) (fn := Try.f12) (body := bodyOf Try.f12) ⟨(uu E), tbl_ok ⟨snd34 E k, snd35 E k, trivial⟩, mixed⟩ rfl rfl (by kernel_rfl) (by kernel_rfl) (by kernel_rfl) rfl rfl rfl (fun a => Nat.le_of_ble_eq_true rfl) ?_
  intro a r h
  refine ⟨3000, k, ?_⟩
  rw [en12]
  rw [show (fun q => evJ (F12 E (f34 k) (f35 k)) 3000 k (td12 q) (em12 q)) = run (step12 (f34 k) (f35 k)) k from funext fun q => evJ_run _ _ _ (st12 E (f34 k) (f35 k)) k q]
  exact h
noncomputable def F31 (E : Bool) : Fn TT ((Int) × S94) := ⟨Try.prog, (UU E), tbl [], Try.f31.ntmps, Try.f31.results.toList, [3], true, 1, annOf [(4, [0, 1])], finL (Dc.int (UU E) .i64) (Db.cells (uu E) 94)⟩
inductive J31 where
  | j4 (x0 : Int) (x1 : (List Int)) (x2 : Int)
noncomputable def td31 : J31 → List Item
  | .j4 _ _ _ => fnd 4 (bodyOf Try.f31) []
noncomputable def em31 : J31 → St TT
  | .j4 x0 x1 x2 => ⟨[(0, .ptr 0 0), (1, .v (.int .i64 x0))], [(0, .cells 94 [.row 5 x1, .v (.int .i64 x2)])], 1⟩
noncomputable def step31 (go : J31 → Option ((Int) × S94)) : J31 → Option ((Int) × S94)
  | .j4 x0 x1 x2 => (cond (decide (((w64 (x2 - 1)) : Int) < (((x1).length : Nat) : Int))) (cond (decide ((0 : Int) ≤ (w64 (x2 - 1)))) (cond (decide (((w64 (x2 - 1)) : Int) < (((x1).length : Nat) : Int))) (cond (!(decide ((x0 : Int) = 0))) (some ((Int.tmod (w64 (rd5 x1 (w64 (x2 - 1)))) x0), (⟨x1, x2⟩ : S94))) none) none) none) (cond (!(decide (((((x1).length : Nat) : Int) : Int) = 0))) (cond (decide ((0 : Int) ≤ (Int.tmod (w64 (x2 - 1)) (((x1).length : Nat) : Int)))) (cond (decide (((Int.tmod (w64 (x2 - 1)) (((x1).length : Nat) : Int)) : Int) < (((x1).length : Nat) : Int))) (cond (!(decide (((((x1).length : Nat) : Int) : Int) = 0))) (cond (decide ((0 : Int) ≤ (Int.tmod (w64 ((w64 ((w64 (x2 - 1)) * 7)) + 3)) (((x1).length : Nat) : Int)))) (cond (decide (((Int.tmod (w64 ((w64 ((w64 (x2 - 1)) * 7)) + 3)) (((x1).length : Nat) : Int)) : Int) < (((x1).length : Nat) : Int))) (cond (!(decide (((((x1).length : Nat) : Int) : Int) = 0))) (cond (!(decide ((x0 : Int) = 0))) (some ((Int.tmod (xor_ Go.IntKind.i64 (w64 ((w64 ((w64 ((w64 ((w64 (rd5 x1 (Int.tmod (w64 (x2 - 1)) (((x1).length : Nat) : Int)))) * 131)) + (w64 ((w64 (rd5 x1 (Int.tmod (w64 ((w64 ((w64 (x2 - 1)) * 7)) + 3)) (((x1).length : Nat) : Int)))) * 1117)))) + (w64 ((w64 (x2 - 1)) * 29)))) + (w64 ((w64 (Int.tdiv (w64 (x2 - 1)) (((x1).length : Nat) : Int))) * 53)))) (w64 (Int.tdiv (w64 ((w64 ((w64 ((w64 ((w64 (rd5 x1 (Int.tmod (w64 (x2 - 1)) (((x1).length : Nat) : Int)))) * 131)) + (w64 ((w64 (rd5 x1 (Int.tmod (w64 ((w64 ((w64 (x2 - 1)) * 7)) + 3)) (((x1).length : Nat) : Int)))) * 1117)))) + (w64 ((w64 (x2 - 1)) * 29)))) + (w64 ((w64 (Int.tdiv (w64 (x2 - 1)) (((x1).length : Nat) : Int))) * 53)))) 64))) x0), (⟨x1, x2⟩ : S94))) none) none) none) none) none) none) none) none))
noncomputable def start31 (go : J31 → Option ((Int) × S94)) : S94 × Int → Option ((Int) × S94)
  | (x0, x1) => (cond (decide ((x1 : Int) < 1)) (some (0, (⟨(x0).f0, (w64 ((x0).f1 + 1))⟩ : S94))) (cond ((((((x0).f0).length : Nat) : Int) : Int) == 0) (some (0, (⟨(x0).f0, (w64 ((x0).f1 + 1))⟩ : S94))) (go (.j4 x1 (x0).f0 (w64 ((x0).f1 + 1))))))
noncomputable def f31 (k : Nat) : S94 × Int → Option ((Int) × S94) := start31 (run (step31) k)
theorem st31 (E : Bool) (G : List Item → St TT → Option ((Int) × S94)) (p : J31) : evFrom (F31 E) G 3000 (td31 p) (em31 p) = step31 (fun q => G (td31 q) (em31 q)) p := by
  cases p <;> kernel_rfl
theorem en31 (E : Bool) (G : List Item → St TT → Option ((Int) × S94)) (a : S94 × Int) : ev (F31 E) G 3000 [.code (bodyOf Try.f31)] (st1 false ((Db.cells (uu E) 94).en a.1) ((Dl.one (Dc.int (UU E) .i64)).en a.2)) = start31 (fun q => G (td31 q) (em31 q)) a := by
  obtain ⟨x0, x1⟩ := a
  kernel_rfl
theorem snd31 (E : Bool) (k : Nat) : SndL Try.prog (UU E) 31 false (WL (Db.cells (uu E) 94) (Dl.one (Dc.int (UU E) .i64)) (f31 k) (Dc.int (UU E) .i64)) := by
  refine sndL_fn (F := F31 E) (fn := Try.f31) (body := bodyOf Try.f31) ⟨(uu E), tbl_ok trivial, mixed⟩ rfl rfl (by intro y; rfl) (by kernel_rfl) (by kernel_rfl) (by kernel_rfl) rfl rfl rfl (fun a => Nat.le_of_ble_eq_true rfl) ?_
  intro y a r h
  refine ⟨3000, k, ?_⟩
  refine (en31 E _ (y, a)).trans ?_
  rw [show (fun q => evJ (F31 E) 3000 k (td31 q) (em31 q)) = run (step31) k from funext fun q => evJ_run _ _ _ (st31 E) k q]
  exact h
noncomputable def F59 (E : Bool) (g31 : S94 × Int → Option ((Int) × S94)) : Fn TT ((ByteArray) × S94) := ⟨Try.prog, (UU E), tbl [(31, .lent false (WL (Db.cells (uu E) 94) (Dl.one (Dc.int (UU E) .i64)) g31 (Dc.int (UU E) .i64)))], Try.f59.ntmps, Try.f59.results.toList, [9], true, 1, annOf [], finL (Dc.str (UU E)) (Db.cells (uu E) 94)⟩
noncomputable def start59 (g31 : S94 × Int → Option ((Int) × S94)) : S94 × Unit → Option ((ByteArray) × S94)
  | (x0, _) => (((g31 ((x0), 24))).bind fun r0 => (cond (((r0).fst : Int) == 0) (((g31 (((r0).snd), 5))).bind fun r1 => (cond (decide ((0 : Int) ≤ (r1).fst)) (cond (decide (((r1).fst : Int) < 5)) (cond (decide ((0 : Int) ≤ (r1).fst)) (cond (decide (((r1).fst : Int) < 5)) (some ((rd9 [(⟨#[]⟩ : ByteArray), (⟨#[65]⟩ : ByteArray), (⟨#[97, 98, 99, 100]⟩ : ByteArray), (⟨#[46, 46]⟩ : ByteArray), (⟨#[97, 47]⟩ : ByteArray)] (r1).fst), ((r1).snd))) none) none) none) none)) (((g31 (((r0).snd), 4))).bind fun r2 => (cond (decide ((0 : Int) ≤ (r2).fst)) (cond (decide (((r2).fst : Int) < 4)) (cond (decide ((0 : Int) ≤ (r2).fst)) (cond (decide (((r2).fst : Int) < 4)) (some ((rd9 [(⟨#[97]⟩ : ByteArray), (⟨#[98]⟩ : ByteArray), (⟨#[99]⟩ : ByteArray), (⟨#[97, 98]⟩ : ByteArray)] (r2).fst), ((r2).snd))) none) none) none) none))))
noncomputable def f59 (k : Nat) : S94 × Unit → Option ((ByteArray) × S94) := start59 (f31 k)
theorem en59 (E : Bool) (g31 : S94 × Int → Option ((Int) × S94)) (G : List Item → St TT → Option ((ByteArray) × S94)) (a : S94 × Unit) : ev (F59 E g31) G 3000 [.code (bodyOf Try.f59)] (st1 false ((Db.cells (uu E) 94).en a.1) ((Dl.nil (UU E)).en a.2)) = start59 g31 a := by
  kernel_rfl
theorem snd59 (E : Bool) (k : Nat) : SndL Try.prog (UU E) 59 false (WL (Db.cells (uu E) 94) (Dl.nil (UU E)) (f59 k) (Dc.str (UU E))) := by
  refine sndL_fn (F := F59 E (f31 k)) (fn := Try.f59) (body := bodyOf Try.f59) ⟨(uu E), tbl_ok ⟨snd31 E k, trivial⟩, mixed⟩ rfl rfl (by intro y; rfl) (by kernel_rfl) (by kernel_rfl) (by kernel_rfl) rfl rfl rfl (fun a => Nat.le_of_ble_eq_true rfl) ?_
  intro y a r h
  refine ⟨3000, k, ?_⟩
  refine (en59 E (f31 k) _ (y, a)).trans ?_
  exact h
noncomputable def F58 (E : Bool) (g31 : S94 × Int → Option ((Int) × S94)) : Fn TT ((S52) × S94) := ⟨Try.prog, (UU E), tbl [(31, .lent false (WL (Db.cells (uu E) 94) (Dl.one (Dc.int (UU E) .i64)) g31 (Dc.int (UU E) .i64)))], Try.f58.ntmps, Try.f58.results.toList, [55], true, 1, annOf [(3, [0, 2, 3, 4]), (5, [0, 2, 3, 4]), (4, [0, 2, 3, 4]), (7, [0, 2, 3])], finL (Dc.agg (uu E) 55) (Db.cells (uu E) 94)⟩
inductive J58 where
  | j3 (x0 : Int) (x1 : (List Int)) (x2 : Int) (x3 : Int) (x4 : Int) (x5 : Int) (x6 : Int) (x7 : (List Int))
  | j5 (x0 : Int) (x1 : (List Int)) (x2 : Int) (x3 : Int) (x4 : Int) (x5 : Int) (x6 : Int) (x7 : (List Int))
  | j7 (x0 : (List Int)) (x1 : Int) (x2 : Int) (x3 : Int) (x4 : Int) (x5 : Int) (x6 : (List Int))
  | j4 (x0 : Int) (x1 : (List Int)) (x2 : Int) (x3 : Int) (x4 : Int) (x5 : Int) (x6 : Int) (x7 : (List Int))
noncomputable def td58 : J58 → List Item
  | .j3 _ _ _ _ _ _ _ _ => fnd 3 (bodyOf Try.f58) []
  | .j5 _ _ _ _ _ _ _ _ => fnd 5 (bodyOf Try.f58) []
  | .j7 _ _ _ _ _ _ _ => fnd 7 (bodyOf Try.f58) []
  | .j4 _ _ _ _ _ _ _ _ => fnd 4 (bodyOf Try.f58) []
noncomputable def em58 : J58 → St TT
  | .j3 x0 x1 x2 x3 x4 x5 x6 x7 => ⟨[(0, .ptr 0 0), (2, .ptr 1 0), (3, .ptr 2 0), (4, .v (.int .i64 x0))], [(0, .cells 94 [.row 5 x1, .v (.int .i64 x2)]), (1, .cells 55 [.v (.int .i64 x3), .v (.int .i64 x4), .v (.slice none 0 0)]), (2, .cells 55 [.v (.int .i64 x5), .v (.int .i64 x6), .own 3]), (3, .arr 3 x7)], 4⟩
  | .j5 x0 x1 x2 x3 x4 x5 x6 x7 => ⟨[(0, .ptr 0 0), (2, .ptr 1 0), (3, .ptr 2 0), (4, .v (.int .i64 x0))], [(0, .cells 94 [.row 5 x1, .v (.int .i64 x2)]), (1, .cells 55 [.v (.int .i64 x3), .v (.int .i64 x4), .v (.slice none 0 0)]), (2, .cells 55 [.v (.int .i64 x5), .v (.int .i64 x6), .own 3]), (3, .arr 3 x7)], 4⟩
  | .j7 x0 x1 x2 x3 x4 x5 x6 => ⟨[(0, .ptr 0 0), (2, .ptr 1 0), (3, .ptr 2 0)], [(0, .cells 94 [.row 5 x0, .v (.int .i64 x1)]), (1, .cells 55 [.v (.int .i64 x2), .v (.int .i64 x3), .v (.slice none 0 0)]), (2, .cells 55 [.v (.int .i64 x4), .v (.int .i64 x5), .own 3]), (3, .arr 3 x6)], 4⟩
  | .j4 x0 x1 x2 x3 x4 x5 x6 x7 => ⟨[(0, .ptr 0 0), (2, .ptr 1 0), (3, .ptr 2 0), (4, .v (.int .i64 x0))], [(0, .cells 94 [.row 5 x1, .v (.int .i64 x2)]), (1, .cells 55 [.v (.int .i64 x3), .v (.int .i64 x4), .v (.slice none 0 0)]), (2, .cells 55 [.v (.int .i64 x5), .v (.int .i64 x6), .own 3]), (3, .arr 3 x7)], 4⟩
noncomputable def step58 (g31 : S94 × Int → Option ((Int) × S94)) (go : J58 → Option ((S52) × S94)) : J58 → Option ((S52) × S94)
  | .j3 x0 x1 x2 x3 x4 x5 x6 x7 => (cond (decide ((x0 : Int) < 5)) (cond (decide (((((x7).length : Nat) : Int) : Int) < 3)) (go (.j5 x0 x1 x2 x3 x4 x5 x6 x7)) (go (.j7 x1 x2 x3 x4 x5 x6 x7))) (go (.j7 x1 x2 x3 x4 x5 x6 x7)))
  | .j5 x0 x1 x2 x3 x4 x5 x6 x7 => (((g31 ((⟨x1, x2⟩ : S94), 4))).bind fun r2 => (cond (((r2).fst : Int) == 0) (cond (decide ((((x7).length + ([x0]).length) * 8) ≤ 140737488355328)) (go (.j4 x0 ((r2).snd).f0 ((r2).snd).f1 x3 x4 x5 x6 (x7 ++ [x0]))) none) (go (.j4 x0 ((r2).snd).f0 ((r2).snd).f1 x3 x4 x5 x6 x7))))
  | .j7 x0 x1 x2 x3 x4 x5 x6 => (((g31 ((⟨x0, x1⟩ : S94), 30))).bind fun r3 => (cond (((r3).fst : Int) == 0) (((g31 (((r3).snd), 3))).bind fun r4 => (cond (decide ((0 : Int) ≤ (r4).fst)) (cond (decide (((r4).fst : Int) < 3)) (cond (decide ((0 : Int) ≤ (r4).fst)) (cond (decide (((r4).fst : Int) < 3)) (some ((⟨(rd3 [(-1), 10, 9] (r4).fst), x5, x6⟩ : S52), ((r4).snd))) none) none) none) none)) (cond (((r3).fst : Int) == 1) (((g31 (((r3).snd), 3))).bind fun r5 => (cond (decide ((0 : Int) ≤ (r5).fst)) (cond (decide (((r5).fst : Int) < 3)) (cond (decide ((0 : Int) ≤ (r5).fst)) (cond (decide (((r5).fst : Int) < 3)) (cond (decide ((((x6).length + ([(rd3 [0, 9, 10] (r5).fst)]).length) * 8) ≤ 140737488355328)) (some ((⟨x4, x5, (x6 ++ [(rd3 [0, 9, 10] (r5).fst)])⟩ : S52), ((r5).snd))) none) none) none) none) none)) (some ((⟨x4, x5, x6⟩ : S52), ((r3).snd))))))
  | .j4 x0 x1 x2 x3 x4 x5 x6 x7 => (go (.j3 (w64 (x0 + 1)) x1 x2 x3 x4 x5 x6 x7))
noncomputable def start58 (g31 : S94 × Int → Option ((Int) × S94)) (go : J58 → Option ((S52) × S94)) : S94 × Unit → Option ((S52) × S94)
  | (x0, _) => (((g31 ((x0), 4))).bind fun r0 => (((g31 (((r0).snd), 4))).bind fun r1 => (go (.j3 0 ((r1).snd).f0 ((r1).snd).f1 0 0 (r0).fst (r1).fst ([] : List Int)))))
noncomputable def f58 (k : Nat) : S94 × Unit → Option ((S52) × S94) := start58 (f31 k) (run (step58 (f31 k)) k)
theorem st58 (E : Bool) (g31 : S94 × Int → Option ((Int) × S94)) (G : List Item → St TT → Option ((S52) × S94)) (p : J58) : evFrom (F58 E g31) G 3000 (td58 p) (em58 p) = step58 g31 (fun q => G (td58 q) (em58 q)) p := by
  cases p <;> kernel_rfl
theorem en58 (E : Bool) (g31 : S94 × Int → Option ((Int) × S94)) (G : List Item → St TT → Option ((S52) × S94)) (a : S94 × Unit) : ev (F58 E g31) G 3000 [.code (bodyOf Try.f58)] (st1 false ((Db.cells (uu E) 94).en a.1) ((Dl.nil (UU E)).en a.2)) = start58 g31 (fun q => G (td58 q) (em58 q)) a := by
  kernel_rfl
theorem snd58 (E : Bool) (k : Nat) : SndL Try.prog (UU E) 58 false (WL (Db.cells (uu E) 94) (Dl.nil (UU E)) (f58 k) (Dc.agg (uu E) 55)) := by
  refine sndL_fn (F := F58 E (f31 k)) (fn := Try.f58) (body := bodyOf Try.f58) ⟨(uu E), tbl_ok ⟨snd31 E k, trivial⟩, mixed⟩ rfl rfl (by intro y; rfl) (by kernel_rfl) (by kernel_rfl) (by kernel_rfl) rfl rfl rfl (fun a => Nat.le_of_ble_eq_true rfl) ?_
  intro y a r h
  refine ⟨3000, k, ?_⟩
  refine (en58 E (f31 k) _ (y, a)).trans ?_
  rw [show (fun q => evJ (F58 E (f31 k)) 3000 k (td58 q) (em58 q)) = run (step58 (f31 k)) k from funext fun q => evJ_run _ _ _ (st58 E (f31 k)) k q]
  exact h
noncomputable def F80 (E : Bool) : Fn TT (S27 × Unit) := ⟨Try.prog, (UU E), tbl [], Try.f80.ntmps, Try.f80.results.toList, [27], false, 0, annOf [(3, [1, 2, 3, 4])], finK (Dk.ago (uu E) 27 (Dk.nil (UU E)))⟩
inductive J80 where
  | j3 (x0 : Int) (x1 : (List S34)) (x2 : (List S34))
noncomputable def td80 : J80 → List Item
  | .j3 _ _ _ => fnd 3 (bodyOf Try.f80) []
noncomputable def em80 : J80 → St TT
  | .j3 x0 x1 x2 => ⟨[(1, .ptr 0 0), (2, .ptr 1 0), (3, .ptr 2 0), (4, .v (.int .i64 x0))], [(0, .cells 27 [.row 34 x1]), (1, .cells 27 [.v (.slice none 0 0)]), (2, .cells 27 [.own 3]), (3, .arr 34 x2)], 4⟩
noncomputable def step80 (go : J80 → Option (S27 × Unit)) : J80 → Option (S27 × Unit)
  | .j3 x0 x1 x2 => (cond (decide ((x0 : Int) < (((x1).length : Nat) : Int))) (cond (decide ((0 : Int) ≤ x0)) (cond (decide ((x0 : Int) < (((x1).length : Nat) : Int))) (cond (decide ((((([] : List S47)).length + (((rd34 x1 x0)).f8).length) * 24) ≤ 140737488355328)) (cond (decide ((((x2).length + ([(⟨((rd34 x1 x0)).f0, ((rd34 x1 x0)).f1, ((rd34 x1 x0)).f2, ((rd34 x1 x0)).f3, ((rd34 x1 x0)).f4, ((rd34 x1 x0)).f5, ((rd34 x1 x0)).f6, ((rd34 x1 x0)).f7, (([] : List S47) ++ ((rd34 x1 x0)).f8)⟩ : S34)]).length) * 96) ≤ 140737488355328)) (go (.j3 (w64 (x0 + 1)) x1 (x2 ++ [(⟨((rd34 x1 x0)).f0, ((rd34 x1 x0)).f1, ((rd34 x1 x0)).f2, ((rd34 x1 x0)).f3, ((rd34 x1 x0)).f4, ((rd34 x1 x0)).f5, ((rd34 x1 x0)).f6, ((rd34 x1 x0)).f7, (([] : List S47) ++ ((rd34 x1 x0)).f8)⟩ : S34)]))) none) none) none) none) (some ((⟨x2⟩ : S27), ())))
noncomputable def start80 (go : J80 → Option (S27 × Unit)) : S27 → Option (S27 × Unit)
  | x0 => (go (.j3 0 (x0).f0 ([] : List S34)))
noncomputable def f80 (k : Nat) : S27 → Option (S27 × Unit) := start80 (run (step80) k)
theorem st80 (E : Bool) (G : List Item → St TT → Option (S27 × Unit)) (p : J80) : evFrom (F80 E) G 3000 (td80 p) (em80 p) = step80 (fun q => G (td80 q) (em80 q)) p := by
  cases p <;> kernel_rfl
theorem en80 (E : Bool) (G : List Item → St TT → Option (S27 × Unit)) (a : S27) : ev (F80 E) G 3000 [.code (bodyOf Try.f80)] (st0 ((Dl.one (Dc.agg (uu E) 27)).en a)) = start80 (fun q => G (td80 q) (em80 q)) a := by
  kernel_rfl
theorem snd80 (E : Bool) (k : Nat) : Snd Try.prog (UU E) 80 (WK (Dl.one (Dc.agg (uu E) 27)) (f80 k) (Dk.ago (uu E) 27 (Dk.nil (UU E)))) := by
  refine sndK_fn (F := F80 E) (fn := Try.f80) (body := bodyOf Try.f80) ⟨(uu E), tbl_ok trivial, mixed⟩ rfl rfl (by kernel_rfl) (by kernel_rfl) (by kernel_rfl) rfl rfl rfl (fun a => Nat.le_of_ble_eq_true rfl) ?_
  intro a r h
  refine ⟨3000, k, ?_⟩
  rw [en80]
  rw [show (fun q => evJ (F80 E) 3000 k (td80 q) (em80 q)) = run (step80) k from funext fun q => evJ_run _ _ _ (st80 E) k q]
  exact h
noncomputable def F93 (E : Bool) : Fn TT ((Unit × Unit) × (List S34)) := ⟨Try.prog, (UU E), tbl [], Try.f93.ntmps, Try.f93.results.toList, [27], false, 1, annOf [(4, [1, 3, 5, 6, 7, 8, 9]), (8, [1, 3, 5, 6, 7, 9, 10]), (10, [1, 3, 5, 6, 7, 8, 9, 10])], finLK (Dk.val (Dc.me (UU E)) (Dk.nil (UU E))) (Db.arr (UU E) 34)⟩
inductive J93 where
  | j4 (x0 : Int) (x1 : Bool) (x2 : Int) (x3 : (List S34)) (x4 : ByteArray) (x5 : Int) (x6 : (List S47))
  | j8 (x0 : Int) (x1 : Int) (x2 : (List S34)) (x3 : ByteArray) (x4 : Int) (x5 : (List S47)) (x6 : ByteArray) (x7 : Int)
  | j10 (x0 : Int) (x1 : Bool) (x2 : Int) (x3 : (List S34)) (x4 : ByteArray) (x5 : Int) (x6 : (List S47)) (x7 : ByteArray) (x8 : Int)
noncomputable def td93 : J93 → List Item
  | .j4 _ _ _ _ _ _ _ => fnd 4 (bodyOf Try.f93) []
  | .j8 _ _ _ _ _ _ _ _ => fnd 8 (bodyOf Try.f93) []
  | .j10 _ _ _ _ _ _ _ _ _ => fnd 10 (bodyOf Try.f93) []
noncomputable def em93 : J93 → St TT
  | .j4 x0 x1 x2 x3 x4 x5 x6 => ⟨[(1, .v (.int .i64 x0)), (3, .ptr 1 0), (5, .ptr 2 0), (6, .ptr 3 0), (7, .own 4), (8, .v (.bool x1)), (9, .v (.int .i64 x2))], [(0, .arr 34 x3), (1, .cells 27 [.own 0]), (2, .cells 47 [.v (.string x4), .v (.int .i64 x5)]), (3, .cells 27 [.v (.slice none 0 0)]), (4, .arr 47 x6)], 5⟩
  | .j8 x0 x1 x2 x3 x4 x5 x6 x7 => ⟨[(1, .v (.int .i64 x0)), (3, .ptr 1 0), (5, .ptr 2 0), (6, .ptr 3 0), (7, .own 4), (9, .v (.int .i64 x1)), (10, .ptr 5 0)], [(0, .arr 34 x2), (1, .cells 27 [.own 0]), (2, .cells 47 [.v (.string x3), .v (.int .i64 x4)]), (3, .cells 27 [.v (.slice none 0 0)]), (4, .arr 47 x5), (5, .cells 47 [.v (.string x6), .v (.int .i64 x7)])], 6⟩
  | .j10 x0 x1 x2 x3 x4 x5 x6 x7 x8 => ⟨[(1, .v (.int .i64 x0)), (3, .ptr 1 0), (5, .ptr 2 0), (6, .ptr 3 0), (7, .own 4), (8, .v (.bool x1)), (9, .v (.int .i64 x2)), (10, .ptr 5 0)], [(0, .arr 34 x3), (1, .cells 27 [.own 0]), (2, .cells 47 [.v (.string x4), .v (.int .i64 x5)]), (3, .cells 27 [.v (.slice none 0 0)]), (4, .arr 47 x6), (5, .cells 47 [.v (.string x7), .v (.int .i64 x8)])], 6⟩
noncomputable def step93 (go : J93 → Option ((Unit × Unit) × (List S34))) : J93 → Option ((Unit × Unit) × (List S34))
  | .j4 x0 x1 x2 x3 x4 x5 x6 => (cond (decide ((0 : Int) ≤ x0)) (cond (decide ((x0 : Int) < (((x3).length : Nat) : Int))) (cond (decide ((0 : Int) ≤ x0)) (cond (decide ((x0 : Int) < (((x3).length : Nat) : Int))) (cond (decide ((x2 : Int) < (((((rd34 x3 x0)).f8).length : Nat) : Int))) (cond (decide ((0 : Int) ≤ x0)) (cond (decide ((x0 : Int) < (((x3).length : Nat) : Int))) (cond (decide ((0 : Int) ≤ x0)) (cond (decide ((x0 : Int) < (((x3).length : Nat) : Int))) (cond (decide ((0 : Int) ≤ x2)) (cond (decide ((x2 : Int) < (((((rd34 x3 x0)).f8).length : Nat) : Int))) (cond (!x1) (cond (!((Go.Op.bytesLess (((rd47 ((rd34 x3 x0)).f8 x2)).f0).toList (x4).toList) || ((((rd47 ((rd34 x3 x0)).f8 x2)).f0).toList == (x4).toList))) (go (.j8 x0 x2 x3 x4 x5 x6 ((rd47 ((rd34 x3 x0)).f8 x2)).f0 ((rd47 ((rd34 x3 x0)).f8 x2)).f1)) (go (.j10 x0 x1 x2 x3 x4 x5 x6 ((rd47 ((rd34 x3 x0)).f8 x2)).f0 ((rd47 ((rd34 x3 x0)).f8 x2)).f1))) (go (.j10 x0 x1 x2 x3 x4 x5 x6 ((rd47 ((rd34 x3 x0)).f8 x2)).f0 ((rd47 ((rd34 x3 x0)).f8 x2)).f1))) none) none) none) none) none) none) (cond (!x1) (cond (decide ((((x6).length + ([(⟨x4, x5⟩ : S47)]).length) * 24) ≤ 140737488355328)) (cond (decide ((0 : Int) ≤ x0)) (cond (decide ((x0 : Int) < (((x3).length : Nat) : Int))) (cond (decide ((0 : Int) ≤ x0)) (cond (decide ((x0 : Int) < (((x3).length : Nat) : Int))) (some (((), ()), (List.set x3 (x0).toNat (⟨((rd34 x3 x0)).f0, ((rd34 x3 x0)).f1, ((rd34 x3 x0)).f2, ((rd34 x3 x0)).f3, ((rd34 x3 x0)).f4, ((rd34 x3 x0)).f5, ((rd34 x3 x0)).f6, ((rd34 x3 x0)).f7, (x6 ++ [(⟨x4, x5⟩ : S47)])⟩ : S34)))) none) none) none) none) none) (cond (decide ((0 : Int) ≤ x0)) (cond (decide ((x0 : Int) < (((x3).length : Nat) : Int))) (cond (decide ((0 : Int) ≤ x0)) (cond (decide ((x0 : Int) < (((x3).length : Nat) : Int))) (some (((), ()), (List.set x3 (x0).toNat (⟨((rd34 x3 x0)).f0, ((rd34 x3 x0)).f1, ((rd34 x3 x0)).f2, ((rd34 x3 x0)).f3, ((rd34 x3 x0)).f4, ((rd34 x3 x0)).f5, ((rd34 x3 x0)).f6, ((rd34 x3 x0)).f7, x6⟩ : S34)))) none) none) none) none))) none) none) none) none)
  | .j8 x0 x1 x2 x3 x4 x5 x6 x7 => (cond (decide ((((x5).length + ([(⟨x3, x4⟩ : S47)]).length) * 24) ≤ 140737488355328)) (go (.j10 x0 true x1 x2 x3 x4 (x5 ++ [(⟨x3, x4⟩ : S47)]) x6 x7)) none)
  | .j10 x0 x1 x2 x3 x4 x5 x6 x7 x8 => (cond (decide ((((x6).length + ([(⟨x7, x8⟩ : S47)]).length) * 24) ≤ 140737488355328)) (go (.j4 x0 x1 (w64 (x2 + 1)) x3 x4 x5 (x6 ++ [(⟨x7, x8⟩ : S47)]))) none)
noncomputable def start93 (go : J93 → Option ((Unit × Unit) × (List S34))) : (List S34) × Int × S47 → Option ((Unit × Unit) × (List S34))
  | (x0, x1, x2) => (go (.j4 x1 false 0 x0 (x2).f0 (x2).f1 ([] : List S47)))
noncomputable def f93 (k : Nat) : (List S34) × Int × S47 → Option ((Unit × Unit) × (List S34)) := start93 (run (step93) k)
theorem st93 (E : Bool) (G : List Item → St TT → Option ((Unit × Unit) × (List S34))) (p : J93) : evFrom (F93 E) G 3000 (td93 p) (em93 p) = step93 (fun q => G (td93 q) (em93 q)) p := by
  cases p <;> kernel_rfl
theorem en93 (E : Bool) (G : List Item → St TT → Option ((Unit × Unit) × (List S34))) (a : (List S34) × Int × S47) : ev (F93 E) G 3000 [.code (bodyOf Try.f93)] (st1 true ((Db.arr (UU E) 34).en a.1) ((Dl.cons (Dc.int (UU E) .i64) (Dl.one (Dc.agg (uu E) 47))).en a.2)) = start93 (fun q => G (td93 q) (em93 q)) a := by
  obtain ⟨x0, x1, x2⟩ := a
  kernel_rfl
theorem snd93 (E : Bool) (k : Nat) : SndL Try.prog (UU E) 93 true (WLK (Db.arr (UU E) 34) (Dl.cons (Dc.int (UU E) .i64) (Dl.one (Dc.agg (uu E) 47))) (f93 k) (Dk.val (Dc.me (UU E)) (Dk.nil (UU E)))) := by
  refine sndLK_fn (F := F93 E) (fn := Try.f93) (body := bodyOf Try.f93) ⟨(uu E), tbl_ok trivial, mixed⟩ rfl rfl (by intro y; trivial) (by kernel_rfl) (by kernel_rfl) (by kernel_rfl) rfl rfl rfl (fun a => Nat.le_of_ble_eq_true rfl) ?_
  intro y a r h
  refine ⟨3000, k, ?_⟩
  refine (en93 E _ (y, a)).trans ?_
  rw [show (fun q => evJ (F93 E) 3000 k (td93 q) (em93 q)) = run (step93) k from funext fun q => evJ_run _ _ _ (st93 E) k q]
  exact h
noncomputable def F81 (E : Bool) (g70 : S27 × S52 × Int × Int → Option (Int)) (g71 : S34 × ByteArray → Option (Int)) (g93 : (List S34) × Int × S47 → Option ((Unit × Unit) × (List S34))) : Fn TT ((Unit × Int × Int × Unit) × (List S34)) := ⟨Try.prog, (UU E), tbl [(70, .plain (W (Dl.cons (Dc.agg (uu E) 27) (Dl.cons (Dc.agg (uu E) 55) (Dl.cons (Dc.int (UU E) .i64) (Dl.one (Dc.int (UU E) .i64))))) g70 (Dc.int (UU E) .i64))), (71, .plain (W (Dl.cons (Dc.agg (uu E) 34) (Dl.one (Dc.str (UU E)))) g71 (Dc.int (UU E) .i64))), (93, .lent true (WLK (Db.arr (UU E) 34) (Dl.cons (Dc.int (UU E) .i64) (Dl.one (Dc.agg (uu E) 47))) g93 (Dk.val (Dc.me (UU E)) (Dk.nil (UU E)))))], Try.f81.ntmps, Try.f81.results.toList, [27, 3, 3], false, 1, annOf [(8, [2, 3, 4, 5, 6, 7, 12, 16, 17]), (9, [2, 3, 4, 5, 6, 7, 12, 16, 17]), (14, [2, 3, 4, 5, 6, 7, 12, 16])], finLK (Dk.val (Dc.me (UU E)) (Dk.val (Dc.int (UU E) .i64) (Dk.val (Dc.int (UU E) .i64) (Dk.nil (UU E))))) (Db.arr (UU E) 34)⟩
inductive J81 where
  | j8 (x0 : Int) (x1 : ByteArray) (x2 : Int) (x3 : Int) (x4 : Int) (x5 : Int) (x6 : (List S34)) (x7 : Int) (x8 : Int) (x9 : (List Int))
  | j9 (x0 : Int) (x1 : ByteArray) (x2 : Int) (x3 : Int) (x4 : Int) (x5 : Int) (x6 : (List S34)) (x7 : Int) (x8 : Int) (x9 : (List Int))
  | j14 (x0 : Int) (x1 : ByteArray) (x2 : Int) (x3 : Int) (x4 : Int) (x5 : (List S34)) (x6 : Int) (x7 : Int) (x8 : (List Int))
noncomputable def td81 : J81 → List Item
  | .j8 _ _ _ _ _ _ _ _ _ _ => fnd 8 (bodyOf Try.f81) []
  | .j9 _ _ _ _ _ _ _ _ _ _ => fnd 9 (bodyOf Try.f81) []
  | .j14 _ _ _ _ _ _ _ _ _ => fnd 14 (bodyOf Try.f81) []
noncomputable def em81 : J81 → St TT
  | .j8 x0 x1 x2 x3 x4 x5 x6 x7 x8 x9 => ⟨[(2, .v (.int .i64 x0)), (3, .v (.string x1)), (4, .v (.int .i64 x2)), (5, .v (.int .i64 x3)), (6, .ptr 1 0), (7, .ptr 2 0), (12, .ptr 3 0), (16, .v (.int .i64 x4)), (17, .v (.int .i64 x5))], [(0, .arr 34 x6), (1, .cells 27 [.own 0]), (2, .cells 55 [.v (.int .i64 x7), .v (.int .i64 x8), .row 3 x9]), (3, .cells 27 [.v (.slice none 0 0)])], 4⟩
  | .j9 x0 x1 x2 x3 x4 x5 x6 x7 x8 x9 => ⟨[(2, .v (.int .i64 x0)), (3, .v (.string x1)), (4, .v (.int .i64 x2)), (5, .v (.int .i64 x3)), (6, .ptr 1 0), (7, .ptr 2 0), (12, .ptr 3 0), (16, .v (.int .i64 x4)), (17, .v (.int .i64 x5))], [(0, .arr 34 x6), (1, .cells 27 [.own 0]), (2, .cells 55 [.v (.int .i64 x7), .v (.int .i64 x8), .row 3 x9]), (3, .cells 27 [.v (.slice none 0 0)])], 4⟩
  | .j14 x0 x1 x2 x3 x4 x5 x6 x7 x8 => ⟨[(2, .v (.int .i64 x0)), (3, .v (.string x1)), (4, .v (.int .i64 x2)), (5, .v (.int .i64 x3)), (6, .ptr 1 0), (7, .ptr 2 0), (12, .ptr 3 0), (16, .v (.int .i64 x4))], [(0, .arr 34 x5), (1, .cells 27 [.own 0]), (2, .cells 55 [.v (.int .i64 x6), .v (.int .i64 x7), .row 3 x8]), (3, .cells 27 [.v (.slice none 0 0)])], 4⟩
noncomputable def step81 (g70 : S27 × S52 × Int × Int → Option (Int)) (g71 : S34 × ByteArray → Option (Int)) (g93 : (List S34) × Int × S47 → Option ((Unit × Unit) × (List S34))) (go : J81 → Option ((Unit × Int × Int × Unit) × (List S34))) : J81 → Option ((Unit × Int × Int × Unit) × (List S34))
  | .j8 x0 x1 x2 x3 x4 x5 x6 x7 x8 x9 => (cond (decide ((x5 : Int) ≥ 0)) (cond (decide ((0 : Int) ≤ x5)) (cond (decide ((x5 : Int) < (((x6).length : Nat) : Int))) (cond (decide ((0 : Int) ≤ x5)) (cond (decide ((x5 : Int) < (((x6).length : Nat) : Int))) (cond ((((rd34 x6 x5)).f0 : Int) == 0) (go (.j9 x0 x1 x2 x3 x5 x5 x6 x7 x8 x9)) (go (.j9 x0 x1 x2 x3 x4 x5 x6 x7 x8 x9))) none) none) none) none) (cond (decide ((x4 : Int) < 0)) (some (((), ((-1), (7, ()))), x6)) (cond (decide ((0 : Int) ≤ x0)) (cond (decide ((x0 : Int) < (((x6).length : Nat) : Int))) (cond (decide ((0 : Int) ≤ x0)) (cond (decide ((x0 : Int) < (((x6).length : Nat) : Int))) (cond (decide (((((((rd34 x6 x0)).f8).length : Nat) : Int) : Int) ≥ 6)) (some (((), ((-1), (7, ()))), x6)) (go (.j14 x0 x1 x2 x3 x4 x6 x7 x8 x9))) none) none) none) none)))
  | .j9 x0 x1 x2 x3 x4 x5 x6 x7 x8 x9 => (go (.j8 x0 x1 x2 x3 x4 (w64 (x5 - 1)) x6 x7 x8 x9))
  | .j14 x0 x1 x2 x3 x4 x5 x6 x7 x8 => (cond (decide (((((x8).length : Nat) : Int) : Int) > 0)) (cond (decide ((0 : Int) < (((x8).length : Nat) : Int))) (cond (decide ((0 : Int) ≤ x4)) (cond (decide ((x4 : Int) < (((x5).length : Nat) : Int))) (cond (decide ((0 : Int) ≤ x4)) (cond (decide ((x4 : Int) < (((x5).length : Nat) : Int))) (((g93 ((List.set x5 (x4).toNat (⟨x2, x3, x6, (rd3 x8 0), 1, 0, false, (⟨#[]⟩ : ByteArray), ([] : List S47)⟩ : S34)), (x0, (⟨x1, x4⟩ : S47))))).bind fun r2 => (some (((), (x4, (0, ()))), (r2).snd))) none) none) none) none) none) (cond (decide ((0 : Int) ≤ x4)) (cond (decide ((x4 : Int) < (((x5).length : Nat) : Int))) (cond (decide ((0 : Int) ≤ x4)) (cond (decide ((x4 : Int) < (((x5).length : Nat) : Int))) (((g93 ((List.set x5 (x4).toNat (⟨x2, x3, x6, x6, 1, 0, false, (⟨#[]⟩ : ByteArray), ([] : List S47)⟩ : S34)), (x0, (⟨x1, x4⟩ : S47))))).bind fun r3 => (some (((), (x4, (0, ()))), (r3).snd))) none) none) none) none))
noncomputable def start81 (g70 : S27 × S52 × Int × Int → Option (Int)) (g71 : S34 × ByteArray → Option (Int)) (g93 : (List S34) × Int × S47 → Option ((Unit × Unit) × (List S34))) (go : J81 → Option ((Unit × Int × Int × Unit) × (List S34))) : (List S34) × S52 × Int × ByteArray × Int × Int → Option ((Unit × Int × Int × Unit) × (List S34))
  | (x0, x1, x2, x3, x4, x5) => (((g70 ((⟨x0⟩ : S27), ((x1), (x2, 3))))).bind fun r0 => (cond ((r0 : Int) != 0) (some (((), ((-1), (r0, ()))), x0)) (cond (decide ((0 : Int) ≤ x2)) (cond (decide ((x2 : Int) < (((x0).length : Nat) : Int))) (cond (decide ((0 : Int) ≤ x2)) (cond (decide ((x2 : Int) < (((x0).length : Nat) : Int))) (((g71 (((rd34 x0 x2)), x3))).bind fun r1 => (cond (decide ((r1 : Int) ≥ 0)) (some (((), ((-1), (3, ()))), x0)) (go (.j8 x2 x3 x4 x5 (-1) (w64 ((((x0).length : Nat) : Int) - 1)) x0 (x1).f0 (x1).f1 (x1).f2)))) none) none) none) none)))
noncomputable def f81 (k : Nat) : (List S34) × S52 × Int × ByteArray × Int × Int → Option ((Unit × Int × Int × Unit) × (List S34)) := start81 (f70 k) (f71 k) (f93 k) (run (step81 (f70 k) (f71 k) (f93 k)) k)
theorem st81 (E : Bool) (g70 : S27 × S52 × Int × Int → Option (Int)) (g71 : S34 × ByteArray → Option (Int)) (g93 : (List S34) × Int × S47 → Option ((Unit × Unit) × (List S34))) (G : List Item → St TT → Option ((Unit × Int × Int × Unit) × (List S34))) (p : J81) : evFrom (F81 E g70 g71 g93) G 3000 (td81 p) (em81 p) = step81 g70 g71 g93 (fun q => G (td81 q) (em81 q)) p := by
  cases p <;> kernel_rfl
theorem en81 (E : Bool) (g70 : S27 × S52 × Int × Int → Option (Int)) (g71 : S34 × ByteArray → Option (Int)) (g93 : (List S34) × Int × S47 → Option ((Unit × Unit) × (List S34))) (G : List Item → St TT → Option ((Unit × Int × Int × Unit) × (List S34))) (a : (List S34) × S52 × Int × ByteArray × Int × Int) : ev (F81 E g70 g71 g93) G 3000 [.code (bodyOf Try.f81)] (st1 true ((Db.arr (UU E) 34).en a.1) ((Dl.cons (Dc.agg (uu E) 55) (Dl.cons (Dc.int (UU E) .i64) (Dl.cons (Dc.str (UU E)) (Dl.cons (Dc.int (UU E) .i64) (Dl.one (Dc.int (UU E) .i64)))))).en a.2)) = start81 g70 g71 g93 (fun q => G (td81 q) (em81 q)) a := by
  obtain ⟨x0, x1, x2, x3, x4, x5⟩ := a
  kernel_rfl
theorem snd81 (E : Bool) (k : Nat) : SndL Try.prog (UU E) 81 true (WLK (Db.arr (UU E) 34) (Dl.cons (Dc.agg (uu E) 55) (Dl.cons (Dc.int (UU E) .i64) (Dl.cons (Dc.str (UU E)) (Dl.cons (Dc.int (UU E) .i64) (Dl.one (Dc.int (UU E) .i64)))))) (f81 k) (Dk.val (Dc.me (UU E)) (Dk.val (Dc.int (UU E) .i64) (Dk.val (Dc.int (UU E) .i64) (Dk.nil (UU E)))))) := by
  refine sndLK_fn (F := F81 E (f70 k) (f71 k) (f93 k)) (fn := Try.f81) (body := bodyOf Try.f81) ⟨(uu E), tbl_ok ⟨snd70 E k, snd71 E k, snd93 E k, trivial⟩, mixed⟩ rfl rfl (by intro y; trivial) (by kernel_rfl) (by kernel_rfl) (by kernel_rfl) rfl rfl rfl (fun a => Nat.le_of_ble_eq_true rfl) ?_
  intro y a r h
  refine ⟨3000, k, ?_⟩
  refine (en81 E (f70 k) (f71 k) (f93 k) _ (y, a)).trans ?_
  rw [show (fun q => evJ (F81 E (f70 k) (f71 k) (f93 k)) 3000 k (td81 q) (em81 q)) = run (step81 (f70 k) (f71 k) (f93 k)) k from funext fun q => evJ_run _ _ _ (st81 E (f70 k) (f71 k) (f93 k)) k q]
  exact h
noncomputable def F82 (E : Bool) (g70 : S27 × S52 × Int × Int → Option (Int)) (g71 : S34 × ByteArray → Option (Int)) (g93 : (List S34) × Int × S47 → Option ((Unit × Unit) × (List S34))) : Fn TT ((Unit × Int × Unit) × (List S34)) := ⟨Try.prog, (UU E), tbl [(70, .plain (W (Dl.cons (Dc.agg (uu E) 27) (Dl.cons (Dc.agg (uu E) 55) (Dl.cons (Dc.int (UU E) .i64) (Dl.one (Dc.int (UU E) .i64))))) g70 (Dc.int (UU E) .i64))), (71, .plain (W (Dl.cons (Dc.agg (uu E) 34) (Dl.one (Dc.str (UU E)))) g71 (Dc.int (UU E) .i64))), (93, .lent true (WLK (Db.arr (UU E) 34) (Dl.cons (Dc.int (UU E) .i64) (Dl.one (Dc.agg (uu E) 47))) g93 (Dk.val (Dc.me (UU E)) (Dk.nil (UU E)))))], Try.f82.ntmps, Try.f82.results.toList, [27, 3], false, 1, annOf [], finLK (Dk.val (Dc.me (UU E)) (Dk.val (Dc.int (UU E) .i64) (Dk.nil (UU E)))) (Db.arr (UU E) 34)⟩
noncomputable def start82 (g70 : S27 × S52 × Int × Int → Option (Int)) (g71 : S34 × ByteArray → Option (Int)) (g93 : (List S34) × Int × S47 → Option ((Unit × Unit) × (List S34))) : (List S34) × S52 × Int × Int × ByteArray → Option ((Unit × Int × Unit) × (List S34))
  | (x0, x1, x2, x3, x4) => (cond (decide ((0 : Int) ≤ x2)) (cond (decide ((x2 : Int) < (((x0).length : Nat) : Int))) (cond (decide ((0 : Int) ≤ x2)) (cond (decide ((x2 : Int) < (((x0).length : Nat) : Int))) (cond ((((rd34 x0 x2)).f0 : Int) != 1) (some (((), (4, ())), x0)) (((g70 ((⟨x0⟩ : S27), ((x1), (x3, 3))))).bind fun r0 => (cond ((r0 : Int) != 0) (some (((), (r0, ())), x0)) (cond (decide ((0 : Int) ≤ x3)) (cond (decide ((x3 : Int) < (((x0).length : Nat) : Int))) (cond (decide ((0 : Int) ≤ x3)) (cond (decide ((x3 : Int) < (((x0).length : Nat) : Int))) (((g71 (((rd34 x0 x3)), x4))).bind fun r1 => (cond (decide ((r1 : Int) ≥ 0)) (some (((), (3, ())), x0)) (cond (decide ((0 : Int) ≤ x3)) (cond (decide ((x3 : Int) < (((x0).length : Nat) : Int))) (cond (decide ((0 : Int) ≤ x3)) (cond (decide ((x3 : Int) < (((x0).length : Nat) : Int))) (cond (decide (((((((rd34 x0 x3)).f8).length : Nat) : Int) : Int) ≥ 6)) (some (((), (7, ())), x0)) (cond (decide ((0 : Int) ≤ x2)) (cond (decide ((x2 : Int) < (((x0).length : Nat) : Int))) (cond (decide ((0 : Int) ≤ x2)) (cond (decide ((x2 : Int) < (((x0).length : Nat) : Int))) (cond (decide ((((rd34 x0 x2)).f4 : Int) ≥ 99)) (some (((), (7, ())), x0)) (cond (decide ((0 : Int) ≤ x2)) (cond (decide ((x2 : Int) < (((x0).length : Nat) : Int))) (cond (decide ((0 : Int) ≤ x2)) (cond (decide ((x2 : Int) < (((x0).length : Nat) : Int))) (cond (decide ((0 : Int) ≤ x2)) (cond (decide ((x2 : Int) < (((x0).length : Nat) : Int))) (cond (decide ((0 : Int) ≤ x2)) (cond (decide ((x2 : Int) < (((x0).length : Nat) : Int))) (((g93 ((List.set x0 (x2).toNat (⟨((rd34 x0 x2)).f0, ((rd34 x0 x2)).f1, ((rd34 x0 x2)).f2, ((rd34 x0 x2)).f3, (w64 (((rd34 x0 x2)).f4 + 1)), ((rd34 x0 x2)).f5, ((rd34 x0 x2)).f6, ((rd34 x0 x2)).f7, ((rd34 x0 x2)).f8⟩ : S34)), (x3, (⟨x4, x2⟩ : S47))))).bind fun r2 => (some (((), (0, ())), (r2).snd))) none) none) none) none) none) none) none) none)) none) none) none) none)) none) none) none) none))) none) none) none) none)))) none) none) none) none)
noncomputable def f82 (k : Nat) : (List S34) × S52 × Int × Int × ByteArray → Option ((Unit × Int × Unit) × (List S34)) := start82 (f70 k) (f71 k) (f93 k)
theorem en82 (E : Bool) (g70 : S27 × S52 × Int × Int → Option (Int)) (g71 : S34 × ByteArray → Option (Int)) (g93 : (List S34) × Int × S47 → Option ((Unit × Unit) × (List S34))) (G : List Item → St TT → Option ((Unit × Int × Unit) × (List S34))) (a : (List S34) × S52 × Int × Int × ByteArray) : ev (F82 E g70 g71 g93) G 3000 [.code (bodyOf Try.f82)] (st1 true ((Db.arr (UU E) 34).en a.1) ((Dl.cons (Dc.agg (uu E) 55) (Dl.cons (Dc.int (UU E) .i64) (Dl.cons (Dc.int (UU E) .i64) (Dl.one (Dc.str (UU E)))))).en a.2)) = start82 g70 g71 g93 a := by
  obtain ⟨x0, x1, x2, x3, x4⟩ := a
  kernel_rfl
theorem snd82 (E : Bool) (k : Nat) : SndL Try.prog (UU E) 82 true (WLK (Db.arr (UU E) 34) (Dl.cons (Dc.agg (uu E) 55) (Dl.cons (Dc.int (UU E) .i64) (Dl.cons (Dc.int (UU E) .i64) (Dl.one (Dc.str (UU E)))))) (f82 k) (Dk.val (Dc.me (UU E)) (Dk.val (Dc.int (UU E) .i64) (Dk.nil (UU E))))) := by
  refine sndLK_fn (F := F82 E (f70 k) (f71 k) (f93 k)) (fn := Try.f82) (body := bodyOf Try.f82) ⟨(uu E), tbl_ok ⟨snd70 E k, snd71 E k, snd93 E k, trivial⟩, mixed⟩ rfl rfl (by intro y; trivial) (by kernel_rfl) (by kernel_rfl) (by kernel_rfl) rfl rfl rfl (fun a => Nat.le_of_ble_eq_true rfl) ?_
  intro y a r h
  refine ⟨3000, k, ?_⟩
  refine (en82 E (f70 k) (f71 k) (f93 k) _ (y, a)).trans ?_
  exact h
noncomputable def F94 (E : Bool) : Fn TT ((Unit × Unit) × (List S34)) := ⟨Try.prog, (UU E), tbl [], Try.f94.ntmps, Try.f94.results.toList, [27], false, 1, annOf [], finLK (Dk.val (Dc.me (UU E)) (Dk.nil (UU E))) (Db.arr (UU E) 34)⟩
noncomputable def start94 : (List S34) × Int → Option ((Unit × Unit) × (List S34))
  | (x0, x1) => (cond (decide ((x1 : Int) > 0)) (cond (decide ((0 : Int) ≤ x1)) (cond (decide ((x1 : Int) < (((x0).length : Nat) : Int))) (cond (decide ((0 : Int) ≤ x1)) (cond (decide ((x1 : Int) < (((x0).length : Nat) : Int))) (cond ((((rd34 x0 x1)).f4 : Int) == 0) (cond (decide ((0 : Int) ≤ x1)) (cond (decide ((x1 : Int) < (((x0).length : Nat) : Int))) (cond (decide ((0 : Int) ≤ x1)) (cond (decide ((x1 : Int) < (((x0).length : Nat) : Int))) (cond ((((rd34 x0 x1)).f5 : Int) == 0) (cond (decide ((0 : Int) ≤ x1)) (cond (decide ((x1 : Int) < (((x0).length : Nat) : Int))) (cond (decide ((0 : Int) ≤ x1)) (cond (decide ((x1 : Int) < (((x0).length : Nat) : Int))) (some (((), ()), (List.set x0 (x1).toNat (⟨0, 0, 0, 0, 0, 0, false, (⟨#[]⟩ : ByteArray), ([] : List S47)⟩ : S34)))) none) none) none) none) (some (((), ()), x0))) none) none) none) none) (some (((), ()), x0))) none) none) none) none) (some (((), ()), x0)))
noncomputable def f94 (k : Nat) : (List S34) × Int → Option ((Unit × Unit) × (List S34)) := start94
theorem en94 (E : Bool) (G : List Item → St TT → Option ((Unit × Unit) × (List S34))) (a : (List S34) × Int) : ev (F94 E) G 3000 [.code (bodyOf Try.f94)] (st1 true ((Db.arr (UU E) 34).en a.1) ((Dl.one (Dc.int (UU E) .i64)).en a.2)) = start94 a := by
  obtain ⟨x0, x1⟩ := a
  kernel_rfl
theorem snd94 (E : Bool) (k : Nat) : SndL Try.prog (UU E) 94 true (WLK (Db.arr (UU E) 34) (Dl.one (Dc.int (UU E) .i64)) (f94 k) (Dk.val (Dc.me (UU E)) (Dk.nil (UU E)))) := by
  refine sndLK_fn (F := F94 E) (fn := Try.f94) (body := bodyOf Try.f94) ⟨(uu E), tbl_ok trivial, mixed⟩ rfl rfl (by intro y; trivial) (by kernel_rfl) (by kernel_rfl) (by kernel_rfl) rfl rfl rfl (fun a => Nat.le_of_ble_eq_true rfl) ?_
  intro y a r h
  refine ⟨3000, k, ?_⟩
  refine (en94 E _ (y, a)).trans ?_
  exact h
noncomputable def F95 (E : Bool) : Fn TT ((Unit × Unit) × (List S34)) := ⟨Try.prog, (UU E), tbl [], Try.f95.ntmps, Try.f95.results.toList, [27], false, 1, annOf [], finLK (Dk.val (Dc.me (UU E)) (Dk.nil (UU E))) (Db.arr (UU E) 34)⟩
noncomputable def start95 : (List S34) × Int × Int → Option ((Unit × Unit) × (List S34))
  | (x0, x1, x2) => (cond (decide ((0 : Int) ≤ x1)) (cond (decide ((x1 : Int) < (((x0).length : Nat) : Int))) (cond (decide ((0 : Int) ≤ x1)) (cond (decide ((x1 : Int) < (((x0).length : Nat) : Int))) (cond (decide ((0 : Int) ≤ x2)) (cond (decide ((x2 : Int) ≤ (((((rd34 x0 x1)).f8).length : Nat) : Int))) (cond (decide ((((([] : List S47)).length + ((List.drop 0 (List.take (x2).toNat ((rd34 x0 x1)).f8))).length) * 24) ≤ 140737488355328)) (cond (decide ((0 : Int) ≤ (w64 (x2 + 1)))) (cond (decide (((w64 (x2 + 1)) : Int) ≤ (((((rd34 x0 x1)).f8).length : Nat) : Int))) (cond (decide (((((([] : List S47) ++ (List.drop 0 (List.take (x2).toNat ((rd34 x0 x1)).f8)))).length + ((List.drop ((w64 (x2 + 1))).toNat (List.take (((rd34 x0 x1)).f8).length ((rd34 x0 x1)).f8))).length) * 24) ≤ 140737488355328)) (cond (decide ((0 : Int) ≤ x1)) (cond (decide ((x1 : Int) < (((x0).length : Nat) : Int))) (cond (decide ((0 : Int) ≤ x1)) (cond (decide ((x1 : Int) < (((x0).length : Nat) : Int))) (some (((), ()), (List.set x0 (x1).toNat (⟨((rd34 x0 x1)).f0, ((rd34 x0 x1)).f1, ((rd34 x0 x1)).f2, ((rd34 x0 x1)).f3, ((rd34 x0 x1)).f4, ((rd34 x0 x1)).f5, ((rd34 x0 x1)).f6, ((rd34 x0 x1)).f7, ((([] : List S47) ++ (List.drop 0 (List.take (x2).toNat ((rd34 x0 x1)).f8))) ++ (List.drop ((w64 (x2 + 1))).toNat (List.take (((rd34 x0 x1)).f8).length ((rd34 x0 x1)).f8)))⟩ : S34)))) none) none) none) none) none) none) none) none) none) none) none) none) none) none)
noncomputable def f95 (k : Nat) : (List S34) × Int × Int → Option ((Unit × Unit) × (List S34)) := start95
theorem en95 (E : Bool) (G : List Item → St TT → Option ((Unit × Unit) × (List S34))) (a : (List S34) × Int × Int) : ev (F95 E) G 3000 [.code (bodyOf Try.f95)] (st1 true ((Db.arr (UU E) 34).en a.1) ((Dl.cons (Dc.int (UU E) .i64) (Dl.one (Dc.int (UU E) .i64))).en a.2)) = start95 a := by
  obtain ⟨x0, x1, x2⟩ := a
  kernel_rfl
theorem snd95 (E : Bool) (k : Nat) : SndL Try.prog (UU E) 95 true (WLK (Db.arr (UU E) 34) (Dl.cons (Dc.int (UU E) .i64) (Dl.one (Dc.int (UU E) .i64))) (f95 k) (Dk.val (Dc.me (UU E)) (Dk.nil (UU E)))) := by
  refine sndLK_fn (F := F95 E) (fn := Try.f95) (body := bodyOf Try.f95) ⟨(uu E), tbl_ok trivial, mixed⟩ rfl rfl (by intro y; trivial) (by kernel_rfl) (by kernel_rfl) (by kernel_rfl) rfl rfl rfl (fun a => Nat.le_of_ble_eq_true rfl) ?_
  intro y a r h
  refine ⟨3000, k, ?_⟩
  refine (en95 E _ (y, a)).trans ?_
  exact h
noncomputable def F83 (E : Bool) (g70 : S27 × S52 × Int × Int → Option (Int)) (g71 : S34 × ByteArray → Option (Int)) (g94 : (List S34) × Int → Option ((Unit × Unit) × (List S34))) (g95 : (List S34) × Int × Int → Option ((Unit × Unit) × (List S34))) : Fn TT ((Unit × Int × Unit) × (List S34)) := ⟨Try.prog, (UU E), tbl [(70, .plain (W (Dl.cons (Dc.agg (uu E) 27) (Dl.cons (Dc.agg (uu E) 55) (Dl.cons (Dc.int (UU E) .i64) (Dl.one (Dc.int (UU E) .i64))))) g70 (Dc.int (UU E) .i64))), (71, .plain (W (Dl.cons (Dc.agg (uu E) 34) (Dl.one (Dc.str (UU E)))) g71 (Dc.int (UU E) .i64))), (94, .lent true (WLK (Db.arr (UU E) 34) (Dl.one (Dc.int (UU E) .i64)) g94 (Dk.val (Dc.me (UU E)) (Dk.nil (UU E))))), (95, .lent true (WLK (Db.arr (UU E) 34) (Dl.cons (Dc.int (UU E) .i64) (Dl.one (Dc.int (UU E) .i64))) g95 (Dk.val (Dc.me (UU E)) (Dk.nil (UU E)))))], Try.f83.ntmps, Try.f83.results.toList, [27, 3], false, 1, annOf [], finLK (Dk.val (Dc.me (UU E)) (Dk.val (Dc.int (UU E) .i64) (Dk.nil (UU E)))) (Db.arr (UU E) 34)⟩
noncomputable def start83 (g70 : S27 × S52 × Int × Int → Option (Int)) (g71 : S34 × ByteArray → Option (Int)) (g94 : (List S34) × Int → Option ((Unit × Unit) × (List S34))) (g95 : (List S34) × Int × Int → Option ((Unit × Unit) × (List S34))) : (List S34) × S52 × Int × ByteArray → Option ((Unit × Int × Unit) × (List S34))
  | (x0, x1, x2, x3) => (((g70 ((⟨x0⟩ : S27), ((x1), (x2, 3))))).bind fun r0 => (cond ((r0 : Int) != 0) (some (((), (r0, ())), x0)) (cond (decide ((0 : Int) ≤ x2)) (cond (decide ((x2 : Int) < (((x0).length : Nat) : Int))) (cond (decide ((0 : Int) ≤ x2)) (cond (decide ((x2 : Int) < (((x0).length : Nat) : Int))) (((g71 (((rd34 x0 x2)), x3))).bind fun r1 => (cond (decide ((r1 : Int) < 0)) (some (((), (2, ())), x0)) (cond (decide ((0 : Int) ≤ x2)) (cond (decide ((x2 : Int) < (((x0).length : Nat) : Int))) (cond (decide ((0 : Int) ≤ x2)) (cond (decide ((x2 : Int) < (((x0).length : Nat) : Int))) (cond (decide ((0 : Int) ≤ r1)) (cond (decide ((r1 : Int) < (((((rd34 x0 x2)).f8).length : Nat) : Int))) (cond (decide ((0 : Int) ≤ ((rd47 ((rd34 x0 x2)).f8 r1)).f1)) (cond (decide ((((rd47 ((rd34 x0 x2)).f8 r1)).f1 : Int) < (((x0).length : Nat) : Int))) (cond (decide ((0 : Int) ≤ ((rd47 ((rd34 x0 x2)).f8 r1)).f1)) (cond (decide ((((rd47 ((rd34 x0 x2)).f8 r1)).f1 : Int) < (((x0).length : Nat) : Int))) (cond ((((rd34 x0 ((rd47 ((rd34 x0 x2)).f8 r1)).f1)).f0 : Int) == 2) (cond (decide (((((((rd34 x0 ((rd47 ((rd34 x0 x2)).f8 r1)).f1)).f8).length : Nat) : Int) : Int) > 0)) (some (((), (6, ())), x0)) (cond (decide ((((rd34 x0 ((rd47 ((rd34 x0 x2)).f8 r1)).f1)).f5 : Int) > 0)) (some (((), (6, ())), x0)) (cond (decide ((0 : Int) ≤ ((rd47 ((rd34 x0 x2)).f8 r1)).f1)) (cond (decide ((((rd47 ((rd34 x0 x2)).f8 r1)).f1 : Int) < (((x0).length : Nat) : Int))) (cond (decide ((0 : Int) ≤ ((rd47 ((rd34 x0 x2)).f8 r1)).f1)) (cond (decide ((((rd47 ((rd34 x0 x2)).f8 r1)).f1 : Int) < (((x0).length : Nat) : Int))) (((g95 ((List.set x0 (((rd47 ((rd34 x0 x2)).f8 r1)).f1).toNat (⟨((rd34 x0 ((rd47 ((rd34 x0 x2)).f8 r1)).f1)).f0, ((rd34 x0 ((rd47 ((rd34 x0 x2)).f8 r1)).f1)).f1, ((rd34 x0 ((rd47 ((rd34 x0 x2)).f8 r1)).f1)).f2, ((rd34 x0 ((rd47 ((rd34 x0 x2)).f8 r1)).f1)).f3, (w64 (((rd34 x0 ((rd47 ((rd34 x0 x2)).f8 r1)).f1)).f4 - 1)), ((rd34 x0 ((rd47 ((rd34 x0 x2)).f8 r1)).f1)).f5, ((rd34 x0 ((rd47 ((rd34 x0 x2)).f8 r1)).f1)).f6, ((rd34 x0 ((rd47 ((rd34 x0 x2)).f8 r1)).f1)).f7, ((rd34 x0 ((rd47 ((rd34 x0 x2)).f8 r1)).f1)).f8⟩ : S34)), (x2, r1)))).bind fun r2 => (((g94 ((r2).snd, ((rd47 ((rd34 x0 x2)).f8 r1)).f1))).bind fun r3 => (some (((), (0, ())), (r3).snd)))) none) none) none) none))) (cond (decide ((0 : Int) ≤ ((rd47 ((rd34 x0 x2)).f8 r1)).f1)) (cond (decide ((((rd47 ((rd34 x0 x2)).f8 r1)).f1 : Int) < (((x0).length : Nat) : Int))) (cond (decide ((0 : Int) ≤ ((rd47 ((rd34 x0 x2)).f8 r1)).f1)) (cond (decide ((((rd47 ((rd34 x0 x2)).f8 r1)).f1 : Int) < (((x0).length : Nat) : Int))) (((g95 ((List.set x0 (((rd47 ((rd34 x0 x2)).f8 r1)).f1).toNat (⟨((rd34 x0 ((rd47 ((rd34 x0 x2)).f8 r1)).f1)).f0, ((rd34 x0 ((rd47 ((rd34 x0 x2)).f8 r1)).f1)).f1, ((rd34 x0 ((rd47 ((rd34 x0 x2)).f8 r1)).f1)).f2, ((rd34 x0 ((rd47 ((rd34 x0 x2)).f8 r1)).f1)).f3, (w64 (((rd34 x0 ((rd47 ((rd34 x0 x2)).f8 r1)).f1)).f4 - 1)), ((rd34 x0 ((rd47 ((rd34 x0 x2)).f8 r1)).f1)).f5, ((rd34 x0 ((rd47 ((rd34 x0 x2)).f8 r1)).f1)).f6, ((rd34 x0 ((rd47 ((rd34 x0 x2)).f8 r1)).f1)).f7, ((rd34 x0 ((rd47 ((rd34 x0 x2)).f8 r1)).f1)).f8⟩ : S34)), (x2, r1)))).bind fun r4 => (((g94 ((r4).snd, ((rd47 ((rd34 x0 x2)).f8 r1)).f1))).bind fun r5 => (some (((), (0, ())), (r5).snd)))) none) none) none) none)) none) none) none) none) none) none) none) none) none) none))) none) none) none) none)))
noncomputable def f83 (k : Nat) : (List S34) × S52 × Int × ByteArray → Option ((Unit × Int × Unit) × (List S34)) := start83 (f70 k) (f71 k) (f94 k) (f95 k)
theorem en83 (E : Bool) (g70 : S27 × S52 × Int × Int → Option (Int)) (g71 : S34 × ByteArray → Option (Int)) (g94 : (List S34) × Int → Option ((Unit × Unit) × (List S34))) (g95 : (List S34) × Int × Int → Option ((Unit × Unit) × (List S34))) (G : List Item → St TT → Option ((Unit × Int × Unit) × (List S34))) (a : (List S34) × S52 × Int × ByteArray) : ev (F83 E g70 g71 g94 g95) G 3000 [.code (bodyOf Try.f83)] (st1 true ((Db.arr (UU E) 34).en a.1) ((Dl.cons (Dc.agg (uu E) 55) (Dl.cons (Dc.int (UU E) .i64) (Dl.one (Dc.str (UU E))))).en a.2)) = start83 g70 g71 g94 g95 a := by
  obtain ⟨x0, x1, x2, x3⟩ := a
  kernel_rfl
theorem snd83 (E : Bool) (k : Nat) : SndL Try.prog (UU E) 83 true (WLK (Db.arr (UU E) 34) (Dl.cons (Dc.agg (uu E) 55) (Dl.cons (Dc.int (UU E) .i64) (Dl.one (Dc.str (UU E))))) (f83 k) (Dk.val (Dc.me (UU E)) (Dk.val (Dc.int (UU E) .i64) (Dk.nil (UU E))))) := by
  refine sndLK_fn (F := F83 E (f70 k) (f71 k) (f94 k) (f95 k)) (fn := Try.f83) (body := bodyOf Try.f83) ⟨(uu E), tbl_ok ⟨snd70 E k, snd71 E k, snd94 E k, snd95 E k, trivial⟩, mixed⟩ rfl rfl (by intro y; trivial) (by kernel_rfl) (by kernel_rfl) (by kernel_rfl) rfl rfl rfl (fun a => Nat.le_of_ble_eq_true rfl) ?_
  intro y a r h
  refine ⟨3000, k, ?_⟩
  refine (en83 E (f70 k) (f71 k) (f94 k) (f95 k) _ (y, a)).trans ?_
  exact h
noncomputable def F96 (E : Bool) (g96 : S27 × Int × Int → Option (Bool)) : Fn TT (Bool) := ⟨Try.prog, (UU E), tbl [(96, .plain (W (Dl.cons (Dc.agg (uu E) 27) (Dl.cons (Dc.int (UU E) .i64) (Dl.one (Dc.int (UU E) .i64)))) g96 (Dc.bool (UU E))))], Try.f96.ntmps, Try.f96.results.toList, [4], true, 0, annOf [(4, [1, 2, 3, 7]), (5, [1, 2, 3, 7])], finD (Dc.bool (UU E))⟩
inductive J96 where
  | j4 (x0 : Int) (x1 : Int) (x2 : Int) (x3 : (List S34))
  | j5 (x0 : Int) (x1 : Int) (x2 : Int) (x3 : (List S34))
noncomputable def td96 : J96 → List Item
  | .j4 _ _ _ _ => fnd 4 (bodyOf Try.f96) []
  | .j5 _ _ _ _ => fnd 5 (bodyOf Try.f96) []
noncomputable def em96 : J96 → St TT
  | .j4 x0 x1 x2 x3 => ⟨[(1, .v (.int .i64 x0)), (2, .v (.int .i64 x1)), (3, .ptr 0 0), (7, .v (.int .i64 x2))], [(0, .cells 27 [.row 34 x3])], 1⟩
  | .j5 x0 x1 x2 x3 => ⟨[(1, .v (.int .i64 x0)), (2, .v (.int .i64 x1)), (3, .ptr 0 0), (7, .v (.int .i64 x2))], [(0, .cells 27 [.row 34 x3])], 1⟩
noncomputable def step96 (g96 : S27 × Int × Int → Option (Bool)) (go : J96 → Option (Bool)) : J96 → Option (Bool)
  | .j4 x0 x1 x2 x3 => (cond (decide ((0 : Int) ≤ x0)) (cond (decide ((x0 : Int) < (((x3).length : Nat) : Int))) (cond (decide ((x2 : Int) < (((((rd34 x3 x0)).f8).length : Nat) : Int))) (cond (decide ((0 : Int) ≤ x0)) (cond (decide ((x0 : Int) < (((x3).length : Nat) : Int))) (cond (decide ((0 : Int) ≤ x2)) (cond (decide ((x2 : Int) < (((((rd34 x3 x0)).f8).length : Nat) : Int))) (cond (decide ((0 : Int) ≤ ((rd47 ((rd34 x3 x0)).f8 x2)).f1)) (cond (decide ((((rd47 ((rd34 x3 x0)).f8 x2)).f1 : Int) < (((x3).length : Nat) : Int))) (cond ((((rd34 x3 ((rd47 ((rd34 x3 x0)).f8 x2)).f1)).f0 : Int) == 2) (((g96 ((⟨x3⟩ : S27), (((rd47 ((rd34 x3 x0)).f8 x2)).f1, x1)))).bind fun r0 => (cond r0 (some true) (go (.j5 x0 x1 x2 x3)))) (go (.j5 x0 x1 x2 x3))) none) none) none) none) none) none) (some false)) none) none)
  | .j5 x0 x1 x2 x3 => (go (.j4 x0 x1 (w64 (x2 + 1)) x3))
noncomputable def start96 (g96 : S27 × Int × Int → Option (Bool)) (go : J96 → Option (Bool)) : S27 × Int × Int → Option (Bool)
  | (x0, x1, x2) => (cond ((x1 : Int) == x2) (some true) (go (.j4 x1 x2 0 (x0).f0)))
noncomputable def f96 (k : Nat) : S27 × Int × Int → Option (Bool) := Nat.rec (fun _ => none) (fun k ih => start96 ih (run (step96 ih) k)) k
theorem st96 (E : Bool) (g96 : S27 × Int × Int → Option (Bool)) (G : List Item → St TT → Option (Bool)) (p : J96) : evFrom (F96 E g96) G 3000 (td96 p) (em96 p) = step96 g96 (fun q => G (td96 q) (em96 q)) p := by
  cases p <;> kernel_rfl
theorem en96 (E : Bool) (g96 : S27 × Int × Int → Option (Bool)) (G : List Item → St TT → Option (Bool)) (a : S27 × Int × Int) : ev (F96 E g96) G 3000 [.code (bodyOf Try.f96)] (st0 ((Dl.cons (Dc.agg (uu E) 27) (Dl.cons (Dc.int (UU E) .i64) (Dl.one (Dc.int (UU E) .i64)))).en a)) = start96 g96 (fun q => G (td96 q) (em96 q)) a := by
  obtain ⟨x0, x1, x2⟩ := a
  kernel_rfl
theorem ss96 (E : Bool) (k : Nat) (ih : Snd Try.prog (UU E) 96 (W (Dl.cons (Dc.agg (uu E) 27) (Dl.cons (Dc.int (UU E) .i64) (Dl.one (Dc.int (UU E) .i64)))) (f96 k) (Dc.bool (UU E)))) : Snd Try.prog (UU E) 96 (W (Dl.cons (Dc.agg (uu E) 27) (Dl.cons (Dc.int (UU E) .i64) (Dl.one (Dc.int (UU E) .i64)))) (f96 (k + 1)) (Dc.bool (UU E))) := by
  refine snd_fn (F := F96 E (f96 k)) (fn := Try.f96) (body := bodyOf Try.f96) ⟨(uu E), tbl_ok ⟨ih, trivial⟩, mixed⟩ rfl rfl (by kernel_rfl) (by kernel_rfl) (by kernel_rfl) rfl rfl rfl (fun a => Nat.le_of_ble_eq_true rfl) ?_
  intro a r h
  refine ⟨3000, k, ?_⟩
  rw [en96]
  rw [show (fun q => evJ (F96 E (f96 k)) 3000 k (td96 q) (em96 q)) = run (step96 (f96 k)) k from funext fun q => evJ_run _ _ _ (st96 E (f96 k)) k q]
  exact h
theorem snd96 (E : Bool) : ∀ k : Nat, Snd Try.prog (UU E) 96 (W (Dl.cons (Dc.agg (uu E) 27) (Dl.cons (Dc.int (UU E) .i64) (Dl.one (Dc.int (UU E) .i64)))) (f96 k) (Dc.bool (UU E)))
  | 0 => ⟨⟨Try.f96, Try.func96, by kernel_rfl, by kernel_rfl⟩, fun l c x hl hx => by
    unfold W at hl
    split at hl
    · cases hl; cases hx
    · cases hl⟩
  | k + 1 => ss96 E k (snd96 E k)
noncomputable def F84 (E : Bool) (g71 : S34 × ByteArray → Option (Int)) (g88 : S27 × S52 × Int × Int → Option (Bool)) (g93 : (List S34) × Int × S47 → Option ((Unit × Unit) × (List S34))) (g95 : (List S34) × Int × Int → Option ((Unit × Unit) × (List S34))) (g96 : S27 × Int × Int → Option (Bool)) : Fn TT ((Unit × Int × Unit) × (List S34)) := ⟨Try.prog, (UU E), tbl [(71, .plain (W (Dl.cons (Dc.agg (uu E) 34) (Dl.one (Dc.str (UU E)))) g71 (Dc.int (UU E) .i64))), (88, .plain (W (Dl.cons (Dc.agg (uu E) 27) (Dl.cons (Dc.agg (uu E) 55) (Dl.cons (Dc.int (UU E) .i64) (Dl.one (Dc.int (UU E) .i64))))) g88 (Dc.bool (UU E)))), (93, .lent true (WLK (Db.arr (UU E) 34) (Dl.cons (Dc.int (UU E) .i64) (Dl.one (Dc.agg (uu E) 47))) g93 (Dk.val (Dc.me (UU E)) (Dk.nil (UU E))))), (95, .lent true (WLK (Db.arr (UU E) 34) (Dl.cons (Dc.int (UU E) .i64) (Dl.one (Dc.int (UU E) .i64))) g95 (Dk.val (Dc.me (UU E)) (Dk.nil (UU E))))), (96, .plain (W (Dl.cons (Dc.agg (uu E) 27) (Dl.cons (Dc.int (UU E) .i64) (Dl.one (Dc.int (UU E) .i64)))) g96 (Dc.bool (UU E))))], Try.f84.ntmps, Try.f84.results.toList, [27, 3], false, 1, annOf [(3, [2, 3, 4, 5, 6, 7, 12]), (5, [2, 3, 4, 5, 6, 12])], finLK (Dk.val (Dc.me (UU E)) (Dk.val (Dc.int (UU E) .i64) (Dk.nil (UU E)))) (Db.arr (UU E) 34)⟩
inductive J84 where
  | j3 (x0 : Int) (x1 : ByteArray) (x2 : Int) (x3 : ByteArray) (x4 : (List S34)) (x5 : Int) (x6 : Int) (x7 : (List Int))
  | j5 (x0 : Int) (x1 : ByteArray) (x2 : Int) (x3 : ByteArray) (x4 : (List S34))
noncomputable def td84 : J84 → List Item
  | .j3 _ _ _ _ _ _ _ _ => fnd 3 (bodyOf Try.f84) []
  | .j5 _ _ _ _ _ => fnd 5 (bodyOf Try.f84) []
noncomputable def em84 : J84 → St TT
  | .j3 x0 x1 x2 x3 x4 x5 x6 x7 => ⟨[(2, .v (.int .i64 x0)), (3, .v (.string x1)), (4, .v (.int .i64 x2)), (5, .v (.string x3)), (6, .ptr 1 0), (7, .ptr 2 0), (12, .ptr 3 0)], [(0, .arr 34 x4), (1, .cells 27 [.own 0]), (2, .cells 55 [.v (.int .i64 x5), .v (.int .i64 x6), .row 3 x7]), (3, .cells 27 [.v (.slice none 0 0)])], 4⟩
  | .j5 x0 x1 x2 x3 x4 => ⟨[(2, .v (.int .i64 x0)), (3, .v (.string x1)), (4, .v (.int .i64 x2)), (5, .v (.string x3)), (6, .ptr 1 0), (12, .ptr 2 0)], [(0, .arr 34 x4), (1, .cells 27 [.own 0]), (2, .cells 27 [.v (.slice none 0 0)])], 3⟩
noncomputable def step84 (g71 : S34 × ByteArray → Option (Int)) (g88 : S27 × S52 × Int × Int → Option (Bool)) (g93 : (List S34) × Int × S47 → Option ((Unit × Unit) × (List S34))) (g95 : (List S34) × Int × Int → Option ((Unit × Unit) × (List S34))) (g96 : S27 × Int × Int → Option (Bool)) (go : J84 → Option ((Unit × Int × Unit) × (List S34))) : J84 → Option ((Unit × Int × Unit) × (List S34))
  | .j3 x0 x1 x2 x3 x4 x5 x6 x7 => (((g88 ((⟨x4⟩ : S27), ((⟨x5, x6, x7⟩ : S52), (x0, 3))))).bind fun r0 => (cond (!r0) (some (((), (5, ())), x4)) (((g88 ((⟨x4⟩ : S27), ((⟨x5, x6, x7⟩ : S52), (x2, 3))))).bind fun r1 => (cond (!r1) (some (((), (5, ())), x4)) (go (.j5 x0 x1 x2 x3 x4))))))
  | .j5 x0 x1 x2 x3 x4 => (cond (decide ((0 : Int) ≤ x0)) (cond (decide ((x0 : Int) < (((x4).length : Nat) : Int))) (cond (decide ((0 : Int) ≤ x0)) (cond (decide ((x0 : Int) < (((x4).length : Nat) : Int))) (((g71 (((rd34 x4 x0)), x1))).bind fun r2 => (cond (decide ((r2 : Int) < 0)) (some (((), (2, ())), x4)) (cond (decide ((0 : Int) ≤ x0)) (cond (decide ((x0 : Int) < (((x4).length : Nat) : Int))) (cond (decide ((0 : Int) ≤ x0)) (cond (decide ((x0 : Int) < (((x4).length : Nat) : Int))) (cond (decide ((0 : Int) ≤ r2)) (cond (decide ((r2 : Int) < (((((rd34 x4 x0)).f8).length : Nat) : Int))) (cond (decide ((0 : Int) ≤ x2)) (cond (decide ((x2 : Int) < (((x4).length : Nat) : Int))) (cond (decide ((0 : Int) ≤ x2)) (cond (decide ((x2 : Int) < (((x4).length : Nat) : Int))) (((g71 (((rd34 x4 x2)), x3))).bind fun r3 => (cond (decide ((r3 : Int) ≥ 0)) (some (((), (3, ())), x4)) (cond (decide ((0 : Int) ≤ ((rd47 ((rd34 x4 x0)).f8 r2)).f1)) (cond (decide ((((rd47 ((rd34 x4 x0)).f8 r2)).f1 : Int) < (((x4).length : Nat) : Int))) (cond (decide ((0 : Int) ≤ ((rd47 ((rd34 x4 x0)).f8 r2)).f1)) (cond (decide ((((rd47 ((rd34 x4 x0)).f8 r2)).f1 : Int) < (((x4).length : Nat) : Int))) (cond ((((rd34 x4 ((rd47 ((rd34 x4 x0)).f8 r2)).f1)).f0 : Int) == 2) (((g96 ((⟨x4⟩ : S27), (((rd47 ((rd34 x4 x0)).f8 r2)).f1, x2)))).bind fun r4 => (cond r4 (some (((), (6, ())), x4)) (cond ((x0 : Int) != x2) (cond (decide ((0 : Int) ≤ x2)) (cond (decide ((x2 : Int) < (((x4).length : Nat) : Int))) (cond (decide ((0 : Int) ≤ x2)) (cond (decide ((x2 : Int) < (((x4).length : Nat) : Int))) (cond (decide (((((((rd34 x4 x2)).f8).length : Nat) : Int) : Int) ≥ 6)) (some (((), (7, ())), x4)) (((g95 (x4, (x0, r2)))).bind fun r5 => (((g93 ((r5).snd, (x2, (⟨x3, ((rd47 ((rd34 x4 x0)).f8 r2)).f1⟩ : S47))))).bind fun r6 => (some (((), (0, ())), (r6).snd))))) none) none) none) none) (((g95 (x4, (x0, r2)))).bind fun r7 => (((g93 ((r7).snd, (x2, (⟨x3, ((rd47 ((rd34 x4 x0)).f8 r2)).f1⟩ : S47))))).bind fun r8 => (some (((), (0, ())), (r8).snd))))))) (cond ((x0 : Int) != x2) (cond (decide ((0 : Int) ≤ x2)) (cond (decide ((x2 : Int) < (((x4).length : Nat) : Int))) (cond (decide ((0 : Int) ≤ x2)) (cond (decide ((x2 : Int) < (((x4).length : Nat) : Int))) (cond (decide (((((((rd34 x4 x2)).f8).length : Nat) : Int) : Int) ≥ 6)) (some (((), (7, ())), x4)) (((g95 (x4, (x0, r2)))).bind fun r9 => (((g93 ((r9).snd, (x2, (⟨x3, ((rd47 ((rd34 x4 x0)).f8 r2)).f1⟩ : S47))))).bind fun r10 => (some (((), (0, ())), (r10).snd))))) none) none) none) none) (((g95 (x4, (x0, r2)))).bind fun r11 => (((g93 ((r11).snd, (x2, (⟨x3, ((rd47 ((rd34 x4 x0)).f8 r2)).f1⟩ : S47))))).bind fun r12 => (some (((), (0, ())), (r12).snd)))))) none) none) none) none))) none) none) none) none) none) none) none) none) none) none))) none) none) none) none)
noncomputable def start84 (g71 : S34 × ByteArray → Option (Int)) (g88 : S27 × S52 × Int × Int → Option (Bool)) (g93 : (List S34) × Int × S47 → Option ((Unit × Unit) × (List S34))) (g95 : (List S34) × Int × Int → Option ((Unit × Unit) × (List S34))) (g96 : S27 × Int × Int → Option (Bool)) (go : J84 → Option ((Unit × Int × Unit) × (List S34))) : (List S34) × S52 × Int × ByteArray × Int × ByteArray → Option ((Unit × Int × Unit) × (List S34))
  | (x0, x1, x2, x3, x4, x5) => (cond (decide ((0 : Int) ≤ x2)) (cond (decide ((x2 : Int) < (((x0).length : Nat) : Int))) (cond (decide ((0 : Int) ≤ x2)) (cond (decide ((x2 : Int) < (((x0).length : Nat) : Int))) (cond ((((rd34 x0 x2)).f0 : Int) != 2) (some (((), (4, ())), x0)) (cond (decide ((0 : Int) ≤ x4)) (cond (decide ((x4 : Int) < (((x0).length : Nat) : Int))) (cond (decide ((0 : Int) ≤ x4)) (cond (decide ((x4 : Int) < (((x0).length : Nat) : Int))) (cond ((((rd34 x0 x4)).f0 : Int) != 2) (some (((), (4, ())), x0)) (go (.j3 x2 x3 x4 x5 x0 (x1).f0 (x1).f1 (x1).f2))) none) none) none) none)) none) none) none) none)
noncomputable def f84 (k : Nat) : (List S34) × S52 × Int × ByteArray × Int × ByteArray → Option ((Unit × Int × Unit) × (List S34)) := start84 (f71 k) (f88 k) (f93 k) (f95 k) (f96 k) (run (step84 (f71 k) (f88 k) (f93 k) (f95 k) (f96 k)) k)
theorem st84 (E : Bool) (g71 : S34 × ByteArray → Option (Int)) (g88 : S27 × S52 × Int × Int → Option (Bool)) (g93 : (List S34) × Int × S47 → Option ((Unit × Unit) × (List S34))) (g95 : (List S34) × Int × Int → Option ((Unit × Unit) × (List S34))) (g96 : S27 × Int × Int → Option (Bool)) (G : List Item → St TT → Option ((Unit × Int × Unit) × (List S34))) (p : J84) : evFrom (F84 E g71 g88 g93 g95 g96) G 3000 (td84 p) (em84 p) = step84 g71 g88 g93 g95 g96 (fun q => G (td84 q) (em84 q)) p := by
  cases p <;> kernel_rfl
theorem en84 (E : Bool) (g71 : S34 × ByteArray → Option (Int)) (g88 : S27 × S52 × Int × Int → Option (Bool)) (g93 : (List S34) × Int × S47 → Option ((Unit × Unit) × (List S34))) (g95 : (List S34) × Int × Int → Option ((Unit × Unit) × (List S34))) (g96 : S27 × Int × Int → Option (Bool)) (G : List Item → St TT → Option ((Unit × Int × Unit) × (List S34))) (a : (List S34) × S52 × Int × ByteArray × Int × ByteArray) : ev (F84 E g71 g88 g93 g95 g96) G 3000 [.code (bodyOf Try.f84)] (st1 true ((Db.arr (UU E) 34).en a.1) ((Dl.cons (Dc.agg (uu E) 55) (Dl.cons (Dc.int (UU E) .i64) (Dl.cons (Dc.str (UU E)) (Dl.cons (Dc.int (UU E) .i64) (Dl.one (Dc.str (UU E))))))).en a.2)) = start84 g71 g88 g93 g95 g96 (fun q => G (td84 q) (em84 q)) a := by
  obtain ⟨x0, x1, x2, x3, x4, x5⟩ := a
  kernel_rfl
theorem snd84 (E : Bool) (k : Nat) : SndL Try.prog (UU E) 84 true (WLK (Db.arr (UU E) 34) (Dl.cons (Dc.agg (uu E) 55) (Dl.cons (Dc.int (UU E) .i64) (Dl.cons (Dc.str (UU E)) (Dl.cons (Dc.int (UU E) .i64) (Dl.one (Dc.str (UU E))))))) (f84 k) (Dk.val (Dc.me (UU E)) (Dk.val (Dc.int (UU E) .i64) (Dk.nil (UU E))))) := by
  refine sndLK_fn (F := F84 E (f71 k) (f88 k) (f93 k) (f95 k) (f96 k)) (fn := Try.f84) (body := bodyOf Try.f84) ⟨(uu E), tbl_ok ⟨snd71 E k, snd88 E k, snd93 E k, snd95 E k, snd96 E k, trivial⟩, mixed⟩ rfl rfl (by intro y; trivial) (by kernel_rfl) (by kernel_rfl) (by kernel_rfl) rfl rfl rfl (fun a => Nat.le_of_ble_eq_true rfl) ?_
  intro y a r h
  refine ⟨3000, k, ?_⟩
  refine (en84 E (f71 k) (f88 k) (f93 k) (f95 k) (f96 k) _ (y, a)).trans ?_
  rw [show (fun q => evJ (F84 E (f71 k) (f88 k) (f93 k) (f95 k) (f96 k)) 3000 k (td84 q) (em84 q)) = run (step84 (f71 k) (f88 k) (f93 k) (f95 k) (f96 k)) k from funext fun q => evJ_run _ _ _ (st84 E (f71 k) (f88 k) (f93 k) (f95 k) (f96 k)) k q]
  exact h
noncomputable def F85 (E : Bool) (g94 : (List S34) × Int → Option ((Unit × Unit) × (List S34))) : Fn TT ((Unit × Int × Unit) × (List S34)) := ⟨Try.prog, (UU E), tbl [(94, .lent true (WLK (Db.arr (UU E) 34) (Dl.one (Dc.int (UU E) .i64)) g94 (Dk.val (Dc.me (UU E)) (Dk.nil (UU E)))))], Try.f85.ntmps, Try.f85.results.toList, [27, 3], false, 1, annOf [(4, [1, 2, 3, 6, 8])], finLK (Dk.val (Dc.me (UU E)) (Dk.val (Dc.int (UU E) .i64) (Dk.nil (UU E)))) (Db.arr (UU E) 34)⟩
inductive J85 where
  | j4 (x0 : Int) (x1 : Bool) (x2 : Int) (x3 : (List S34))
noncomputable def td85 : J85 → List Item
  | .j4 _ _ _ _ => fnd 4 (bodyOf Try.f85) []
noncomputable def em85 : J85 → St TT
  | .j4 x0 x1 x2 x3 => ⟨[(1, .v (.int .i64 x0)), (2, .v (.bool x1)), (3, .ptr 1 0), (6, .ptr 2 0), (8, .v (.int .i64 x2))], [(0, .arr 34 x3), (1, .cells 27 [.own 0]), (2, .cells 27 [.v (.slice none 0 0)])], 3⟩
noncomputable def step85 (g94 : (List S34) × Int → Option ((Unit × Unit) × (List S34))) (go : J85 → Option ((Unit × Int × Unit) × (List S34))) : J85 → Option ((Unit × Int × Unit) × (List S34))
  | .j4 x0 x1 x2 x3 => (cond x1 (cond (decide ((0 : Int) ≤ x0)) (cond (decide ((x0 : Int) < (((x3).length : Nat) : Int))) (cond (decide ((0 : Int) ≤ x0)) (cond (decide ((x0 : Int) < (((x3).length : Nat) : Int))) (some (((), (0, ())), (List.set x3 (x0).toNat (⟨((rd34 x3 x0)).f0, ((rd34 x3 x0)).f1, ((rd34 x3 x0)).f2, ((rd34 x3 x0)).f3, ((rd34 x3 x0)).f4, (w64 (x2 + 1)), ((rd34 x3 x0)).f6, ((rd34 x3 x0)).f7, ((rd34 x3 x0)).f8⟩ : S34)))) none) none) none) none) (cond (decide ((0 : Int) ≤ x0)) (cond (decide ((x0 : Int) < (((x3).length : Nat) : Int))) (cond (decide ((0 : Int) ≤ x0)) (cond (decide ((x0 : Int) < (((x3).length : Nat) : Int))) (((g94 ((List.set x3 (x0).toNat (⟨((rd34 x3 x0)).f0, ((rd34 x3 x0)).f1, ((rd34 x3 x0)).f2, ((rd34 x3 x0)).f3, ((rd34 x3 x0)).f4, (w64 (x2 - 1)), ((rd34 x3 x0)).f6, ((rd34 x3 x0)).f7, ((rd34 x3 x0)).f8⟩ : S34)), x0))).bind fun r0 => (some (((), (0, ())), (r0).snd))) none) none) none) none))
noncomputable def start85 (g94 : (List S34) × Int → Option ((Unit × Unit) × (List S34))) (go : J85 → Option ((Unit × Int × Unit) × (List S34))) : (List S34) × Int × Bool → Option ((Unit × Int × Unit) × (List S34))
  | (x0, x1, x2) => (cond (decide ((0 : Int) ≤ x1)) (cond (decide ((x1 : Int) < (((x0).length : Nat) : Int))) (cond (decide ((0 : Int) ≤ x1)) (cond (decide ((x1 : Int) < (((x0).length : Nat) : Int))) (cond x2 (cond (decide ((((rd34 x0 x1)).f5 : Int) ≥ 99)) (some (((), (6, ())), x0)) (cond (!x2) (cond ((((rd34 x0 x1)).f5 : Int) == 0) (some (((), (6, ())), x0)) (go (.j4 x1 x2 ((rd34 x0 x1)).f5 x0))) (go (.j4 x1 x2 ((rd34 x0 x1)).f5 x0)))) (cond (!x2) (cond ((((rd34 x0 x1)).f5 : Int) == 0) (some (((), (6, ())), x0)) (go (.j4 x1 x2 ((rd34 x0 x1)).f5 x0))) (go (.j4 x1 x2 ((rd34 x0 x1)).f5 x0)))) none) none) none) none)
noncomputable def f85 (k : Nat) : (List S34) × Int × Bool → Option ((Unit × Int × Unit) × (List S34)) := start85 (f94 k) (run (step85 (f94 k)) k)
theorem st85 (E : Bool) (g94 : (List S34) × Int → Option ((Unit × Unit) × (List S34))) (G : List Item → St TT → Option ((Unit × Int × Unit) × (List S34))) (p : J85) : evFrom (F85 E g94) G 3000 (td85 p) (em85 p) = step85 g94 (fun q => G (td85 q) (em85 q)) p := by
  cases p <;> kernel_rfl
theorem en85 (E : Bool) (g94 : (List S34) × Int → Option ((Unit × Unit) × (List S34))) (G : List Item → St TT → Option ((Unit × Int × Unit) × (List S34))) (a : (List S34) × Int × Bool) : ev (F85 E g94) G 3000 [.code (bodyOf Try.f85)] (st1 true ((Db.arr (UU E) 34).en a.1) ((Dl.cons (Dc.int (UU E) .i64) (Dl.one (Dc.bool (UU E)))).en a.2)) = start85 g94 (fun q => G (td85 q) (em85 q)) a := by
  obtain ⟨x0, x1, x2⟩ := a
  kernel_rfl
theorem snd85 (E : Bool) (k : Nat) : SndL Try.prog (UU E) 85 true (WLK (Db.arr (UU E) 34) (Dl.cons (Dc.int (UU E) .i64) (Dl.one (Dc.bool (UU E)))) (f85 k) (Dk.val (Dc.me (UU E)) (Dk.val (Dc.int (UU E) .i64) (Dk.nil (UU E))))) := by
  refine sndLK_fn (F := F85 E (f94 k)) (fn := Try.f85) (body := bodyOf Try.f85) ⟨(uu E), tbl_ok ⟨snd94 E k, trivial⟩, mixed⟩ rfl rfl (by intro y; trivial) (by kernel_rfl) (by kernel_rfl) (by kernel_rfl) rfl rfl rfl (fun a => Nat.le_of_ble_eq_true rfl) ?_
  intro y a r h
  refine ⟨3000, k, ?_⟩
  refine (en85 E (f94 k) _ (y, a)).trans ?_
  rw [show (fun q => evJ (F85 E (f94 k)) 3000 k (td85 q) (em85 q)) = run (step85 (f94 k)) k from funext fun q => evJ_run _ _ _ (st85 E (f94 k)) k q]
  exact h
noncomputable def F86 (E : Bool) : Fn TT ((Unit × Int × Unit) × (List S34)) := ⟨Try.prog, (UU E), tbl [], Try.f86.ntmps, Try.f86.results.toList, [27, 3], false, 1, annOf [(6, [1, 2, 3, 4, 8, 10]), (8, [1, 2, 3, 4, 8, 10])], finLK (Dk.val (Dc.me (UU E)) (Dk.val (Dc.int (UU E) .i64) (Dk.nil (UU E)))) (Db.arr (UU E) 34)⟩
inductive J86 where
  | j6 (x0 : Int) (x1 : Int) (x2 : ByteArray) (x3 : ByteArray) (x4 : (List S34))
  | j8 (x0 : Int) (x1 : Int) (x2 : ByteArray) (x3 : ByteArray) (x4 : (List S34))
noncomputable def td86 : J86 → List Item
  | .j6 _ _ _ _ _ => fnd 6 (bodyOf Try.f86) []
  | .j8 _ _ _ _ _ => fnd 8 (bodyOf Try.f86) []
noncomputable def em86 : J86 → St TT
  | .j6 x0 x1 x2 x3 x4 => ⟨[(1, .v (.int .i64 x0)), (2, .v (.int .i64 x1)), (3, .v (.string x2)), (4, .ptr 1 0), (8, .ptr 2 0), (10, .v (.string x3))], [(0, .arr 34 x4), (1, .cells 27 [.own 0]), (2, .cells 27 [.v (.slice none 0 0)])], 3⟩
  | .j8 x0 x1 x2 x3 x4 => ⟨[(1, .v (.int .i64 x0)), (2, .v (.int .i64 x1)), (3, .v (.string x2)), (4, .ptr 1 0), (8, .ptr 2 0), (10, .v (.string x3))], [(0, .arr 34 x4), (1, .cells 27 [.own 0]), (2, .cells 27 [.v (.slice none 0 0)])], 3⟩
noncomputable def step86 (go : J86 → Option ((Unit × Int × Unit) × (List S34))) : J86 → Option ((Unit × Int × Unit) × (List S34))
  | .j6 x0 x1 x2 x3 x4 => (cond ((x2).toList == ((⟨#[]⟩ : ByteArray)).toList) (some (((), (0, ())), x4)) (go (.j8 x0 x1 x2 x3 x4)))
  | .j8 x0 x1 x2 x3 x4 => (cond (decide (((((x3).size : Nat) : Int) : Int) < x1)) (cond (decide (((x3).size + ((Go.strOfNums (List.map (fun x => x) [0]))).size) ≤ 9223372036854775807)) (go (.j8 x0 x1 x2 (x3 ++ (Go.strOfNums (List.map (fun x => x) [0]))) x4)) none) (cond (decide ((0 : Int) ≤ x1)) (cond (decide ((x1 : Int) ≤ (((x3).size : Nat) : Int))) (cond (decide ((((ByteArray.extract x3 0 (x1).toNat)).size + (x2).size) ≤ 9223372036854775807)) (cond (decide ((0 : Int) ≤ (cond (decide (((w64 (x1 + (((x2).size : Nat) : Int))) : Int) < (((x3).size : Nat) : Int))) (w64 (x1 + (((x2).size : Nat) : Int))) (((x3).size : Nat) : Int)))) (cond (decide (((cond (decide (((w64 (x1 + (((x2).size : Nat) : Int))) : Int) < (((x3).size : Nat) : Int))) (w64 (x1 + (((x2).size : Nat) : Int))) (((x3).size : Nat) : Int)) : Int) ≤ (((x3).size : Nat) : Int))) (cond (decide (((((ByteArray.extract x3 0 (x1).toNat) ++ x2)).size + ((ByteArray.extract x3 ((cond (decide (((w64 (x1 + (((x2).size : Nat) : Int))) : Int) < (((x3).size : Nat) : Int))) (w64 (x1 + (((x2).size : Nat) : Int))) (((x3).size : Nat) : Int))).toNat (x3).size)).size) ≤ 9223372036854775807)) (cond (decide ((0 : Int) ≤ x0)) (cond (decide ((x0 : Int) < (((x4).length : Nat) : Int))) (cond (decide ((0 : Int) ≤ x0)) (cond (decide ((x0 : Int) < (((x4).length : Nat) : Int))) (some (((), (0, ())), (List.set x4 (x0).toNat (⟨((rd34 x4 x0)).f0, ((rd34 x4 x0)).f1, ((rd34 x4 x0)).f2, ((rd34 x4 x0)).f3, ((rd34 x4 x0)).f4, ((rd34 x4 x0)).f5, ((rd34 x4 x0)).f6, (((ByteArray.extract x3 0 (x1).toNat) ++ x2) ++ (ByteArray.extract x3 ((cond (decide (((w64 (x1 + (((x2).size : Nat) : Int))) : Int) < (((x3).size : Nat) : Int))) (w64 (x1 + (((x2).size : Nat) : Int))) (((x3).size : Nat) : Int))).toNat (x3).size)), ((rd34 x4 x0)).f8⟩ : S34)))) none) none) none) none) none) none) none) none) none) none))
noncomputable def start86 (go : J86 → Option ((Unit × Int × Unit) × (List S34))) : (List S34) × Int × Int × ByteArray → Option ((Unit × Int × Unit) × (List S34))
  | (x0, x1, x2, x3) => (cond (decide ((0 : Int) ≤ x1)) (cond (decide ((x1 : Int) < (((x0).length : Nat) : Int))) (cond (decide ((0 : Int) ≤ x1)) (cond (decide ((x1 : Int) < (((x0).length : Nat) : Int))) (cond (decide ((0 : Int) ≤ x1)) (cond (decide ((x1 : Int) < (((x0).length : Nat) : Int))) (cond (decide ((0 : Int) ≤ x1)) (cond (decide ((x1 : Int) < (((x0).length : Nat) : Int))) (cond ((((rd34 x0 x1)).f0 : Int) != 1) (some (((), (4, ())), x0)) (cond (decide ((x2 : Int) > 40)) (some (((), (7, ())), x0)) (cond (decide (((w64 (x2 + (((x3).size : Nat) : Int))) : Int) > 40)) (some (((), (7, ())), x0)) (go (.j6 x1 x2 x3 ((rd34 x0 x1)).f7 x0))))) none) none) none) none) none) none) none) none)
noncomputable def f86 (k : Nat) : (List S34) × Int × Int × ByteArray → Option ((Unit × Int × Unit) × (List S34)) := start86 (run (step86) k)
theorem st86 (E : Bool) (G : List Item → St TT → Option ((Unit × Int × Unit) × (List S34))) (p : J86) : evFrom (F86 E) G 3000 (td86 p) (em86 p) = step86 (fun q => G (td86 q) (em86 q)) p := by
  cases p <;> kernel_rfl
theorem en86 (E : Bool) (G : List Item → St TT → Option ((Unit × Int × Unit) × (List S34))) (a : (List S34) × Int × Int × ByteArray) : ev (F86 E) G 3000 [.code (bodyOf Try.f86)] (st1 true ((Db.arr (UU E) 34).en a.1) ((Dl.cons (Dc.int (UU E) .i64) (Dl.cons (Dc.int (UU E) .i64) (Dl.one (Dc.str (UU E))))).en a.2)) = start86 (fun q => G (td86 q) (em86 q)) a := by
  obtain ⟨x0, x1, x2, x3⟩ := a
  kernel_rfl
theorem snd86 (E : Bool) (k : Nat) : SndL Try.prog (UU E) 86 true (WLK (Db.arr (UU E) 34) (Dl.cons (Dc.int (UU E) .i64) (Dl.cons (Dc.int (UU E) .i64) (Dl.one (Dc.str (UU E))))) (f86 k) (Dk.val (Dc.me (UU E)) (Dk.val (Dc.int (UU E) .i64) (Dk.nil (UU E))))) := by
  refine sndLK_fn (F := F86 E) (fn := Try.f86) (body := bodyOf Try.f86) ⟨(uu E), tbl_ok trivial, mixed⟩ rfl rfl (by intro y; trivial) (by kernel_rfl) (by kernel_rfl) (by kernel_rfl) rfl rfl rfl (fun a => Nat.le_of_ble_eq_true rfl) ?_
  intro y a r h
  refine ⟨3000, k, ?_⟩
  refine (en86 E _ (y, a)).trans ?_
  rw [show (fun q => evJ (F86 E) 3000 k (td86 q) (em86 q)) = run (step86) k from funext fun q => evJ_run _ _ _ (st86 E) k q]
  exact h
noncomputable def F87 (E : Bool) (g31 : S94 × Int → Option ((Int) × S94)) : Fn TT ((ByteArray) × S94) := ⟨Try.prog, (UU E), tbl [(31, .lent false (WL (Db.cells (uu E) 94) (Dl.one (Dc.int (UU E) .i64)) g31 (Dc.int (UU E) .i64)))], Try.f87.ntmps, Try.f87.results.toList, [9], true, 1, annOf [(3, [0, 5, 6])], finL (Dc.str (UU E)) (Db.cells (uu E) 94)⟩
inductive J87 where
  | j3 (x0 : Int) (x1 : (List Int)) (x2 : Int) (x3 : (List Int))
noncomputable def td87 : J87 → List Item
  | .j3 _ _ _ _ => fnd 3 (bodyOf Try.f87) []
noncomputable def em87 : J87 → St TT
  | .j3 x0 x1 x2 x3 => ⟨[(0, .ptr 0 0), (5, .own 1), (6, .v (.int .i64 x0))], [(0, .cells 94 [.row 5 x1, .v (.int .i64 x2)]), (1, .arr 5 x3)], 2⟩
noncomputable def step87 (g31 : S94 × Int → Option ((Int) × S94)) (go : J87 → Option ((ByteArray) × S94)) : J87 → Option ((ByteArray) × S94)
  | .j3 x0 x1 x2 x3 => (cond (decide ((x0 : Int) > 0)) (((g31 ((⟨x1, x2⟩ : S94), 12))).bind fun r1 => (cond (decide ((0 : Int) ≤ (r1).fst)) (cond (decide (((r1).fst : Int) < 12)) (cond (decide ((((x3).length + ([(bt (⟨#[97, 98, 99, 100, 101, 102, 103, 104, 48, 49, 32, 46]⟩ : ByteArray) (r1).fst)]).length) * 1) ≤ 140737488355328)) (go (.j3 (w64 (x0 - 1)) ((r1).snd).f0 ((r1).snd).f1 (x3 ++ [(bt (⟨#[97, 98, 99, 100, 101, 102, 103, 104, 48, 49, 32, 46]⟩ : ByteArray) (r1).fst)]))) none) none) none)) (some ((Go.strOfNums (List.map (fun x => x) x3)), (⟨x1, x2⟩ : S94))))
noncomputable def start87 (g31 : S94 × Int → Option ((Int) × S94)) (go : J87 → Option ((ByteArray) × S94)) : S94 × Int → Option ((ByteArray) × S94)
  | (x0, x1) => (((g31 ((x0), (w64 (x1 + 1))))).bind fun r0 => (go (.j3 (r0).fst ((r0).snd).f0 ((r0).snd).f1 ([] : List Int))))
noncomputable def f87 (k : Nat) : S94 × Int → Option ((ByteArray) × S94) := start87 (f31 k) (run (step87 (f31 k)) k)
theorem st87 (E : Bool) (g31 : S94 × Int → Option ((Int) × S94)) (G : List Item → St TT → Option ((ByteArray) × S94)) (p : J87) : evFrom (F87 E g31) G 3000 (td87 p) (em87 p) = step87 g31 (fun q => G (td87 q) (em87 q)) p := by
  cases p <;> kernel_rfl
theorem en87 (E : Bool) (g31 : S94 × Int → Option ((Int) × S94)) (G : List Item → St TT → Option ((ByteArray) × S94)) (a : S94 × Int) : ev (F87 E g31) G 3000 [.code (bodyOf Try.f87)] (st1 false ((Db.cells (uu E) 94).en a.1) ((Dl.one (Dc.int (UU E) .i64)).en a.2)) = start87 g31 (fun q => G (td87 q) (em87 q)) a := by
  obtain ⟨x0, x1⟩ := a
  kernel_rfl
theorem snd87 (E : Bool) (k : Nat) : SndL Try.prog (UU E) 87 false (WL (Db.cells (uu E) 94) (Dl.one (Dc.int (UU E) .i64)) (f87 k) (Dc.str (UU E))) := by
  refine sndL_fn (F := F87 E (f31 k)) (fn := Try.f87) (body := bodyOf Try.f87) ⟨(uu E), tbl_ok ⟨snd31 E k, trivial⟩, mixed⟩ rfl rfl (by intro y; rfl) (by kernel_rfl) (by kernel_rfl) (by kernel_rfl) rfl rfl rfl (fun a => Nat.le_of_ble_eq_true rfl) ?_
  intro y a r h
  refine ⟨3000, k, ?_⟩
  refine (en87 E (f31 k) _ (y, a)).trans ?_
  rw [show (fun q => evJ (F87 E (f31 k)) 3000 k (td87 q) (em87 q)) = run (step87 (f31 k)) k from funext fun q => evJ_run _ _ _ (st87 E (f31 k)) k q]
  exact h
noncomputable def F69 (E : Bool) (g31 : S94 × Int → Option ((Int) × S94)) (g44 : S27 × Int → Option (Bool)) (g58 : S94 × Unit → Option ((S52) × S94)) (g80 : S27 → Option (S27 × Unit)) (g81 : (List S34) × S52 × Int × ByteArray × Int × Int → Option ((Unit × Int × Int × Unit) × (List S34))) (g82 : (List S34) × S52 × Int × Int × ByteArray → Option ((Unit × Int × Unit) × (List S34))) (g83 : (List S34) × S52 × Int × ByteArray → Option ((Unit × Int × Unit) × (List S34))) (g84 : (List S34) × S52 × Int × ByteArray × Int × ByteArray → Option ((Unit × Int × Unit) × (List S34))) (g85 : (List S34) × Int × Bool → Option ((Unit × Int × Unit) × (List S34))) (g86 : (List S34) × Int × Int × ByteArray → Option ((Unit × Int × Unit) × (List S34))) (g87 : S94 × Int → Option ((ByteArray) × S94)) : Fn TT ((S27 × Unit) × S94) := ⟨Try.prog, (UU E), tbl [(31, .lent false (WL (Db.cells (uu E) 94) (Dl.one (Dc.int (UU E) .i64)) g31 (Dc.int (UU E) .i64))), (44, .plain (W (Dl.cons (Dc.agg (uu E) 27) (Dl.one (Dc.int (UU E) .i64))) g44 (Dc.bool (UU E)))), (58, .lent false (WL (Db.cells (uu E) 94) (Dl.nil (UU E)) g58 (Dc.agg (uu E) 55))), (80, .plain (WK (Dl.one (Dc.agg (uu E) 27)) g80 (Dk.ago (uu E) 27 (Dk.nil (UU E))))), (81, .lent true (WLK (Db.arr (UU E) 34) (Dl.cons (Dc.agg (uu E) 55) (Dl.cons (Dc.int (UU E) .i64) (Dl.cons (Dc.str (UU E)) (Dl.cons (Dc.int (UU E) .i64) (Dl.one (Dc.int (UU E) .i64)))))) g81 (Dk.val (Dc.me (UU E)) (Dk.val (Dc.int (UU E) .i64) (Dk.val (Dc.int (UU E) .i64) (Dk.nil (UU E))))))), (82, .lent true (WLK (Db.arr (UU E) 34) (Dl.cons (Dc.agg (uu E) 55) (Dl.cons (Dc.int (UU E) .i64) (Dl.cons (Dc.int (UU E) .i64) (Dl.one (Dc.str (UU E)))))) g82 (Dk.val (Dc.me (UU E)) (Dk.val (Dc.int (UU E) .i64) (Dk.nil (UU E)))))), (83, .lent true (WLK (Db.arr (UU E) 34) (Dl.cons (Dc.agg (uu E) 55) (Dl.cons (Dc.int (UU E) .i64) (Dl.one (Dc.str (UU E))))) g83 (Dk.val (Dc.me (UU E)) (Dk.val (Dc.int (UU E) .i64) (Dk.nil (UU E)))))), (84, .lent true (WLK (Db.arr (UU E) 34) (Dl.cons (Dc.agg (uu E) 55) (Dl.cons (Dc.int (UU E) .i64) (Dl.cons (Dc.str (UU E)) (Dl.cons (Dc.int (UU E) .i64) (Dl.one (Dc.str (UU E))))))) g84 (Dk.val (Dc.me (UU E)) (Dk.val (Dc.int (UU E) .i64) (Dk.nil (UU E)))))), (85, .lent true (WLK (Db.arr (UU E) 34) (Dl.cons (Dc.int (UU E) .i64) (Dl.one (Dc.bool (UU E)))) g85 (Dk.val (Dc.me (UU E)) (Dk.val (Dc.int (UU E) .i64) (Dk.nil (UU E)))))), (86, .lent true (WLK (Db.arr (UU E) 34) (Dl.cons (Dc.int (UU E) .i64) (Dl.cons (Dc.int (UU E) .i64) (Dl.one (Dc.str (UU E))))) g86 (Dk.val (Dc.me (UU E)) (Dk.val (Dc.int (UU E) .i64) (Dk.nil (UU E)))))), (87, .lent false (WL (Db.cells (uu E) 94) (Dl.one (Dc.int (UU E) .i64)) g87 (Dc.str (UU E))))], Try.f69.ntmps, Try.f69.results.toList, [27], false, 1, annOf [(4, [0, 3, 4, 5]), (8, [0, 3, 4, 5, 6, 7]), (10, [0, 3, 4, 5, 6, 7]), (19, [0, 4, 5, 6, 7, 8, 9, 10, 42])], finLK (Dk.ago (uu E) 27 (Dk.nil (UU E))) (Db.cells (uu E) 94)⟩
inductive J69 where
  | j4 (x0 : (List Int)) (x1 : Int) (x2 : (List S34)) (x3 : Int) (x4 : Int) (x5 : (List Int))
  | j8 (x0 : Int) (x1 : Int) (x2 : (List Int)) (x3 : Int) (x4 : (List S34)) (x5 : Int) (x6 : Int) (x7 : (List Int))
  | j10 (x0 : Int) (x1 : Int) (x2 : (List Int)) (x3 : Int) (x4 : (List S34)) (x5 : Int) (x6 : Int) (x7 : (List Int))
  | j19 (x0 : Int) (x1 : Int) (x2 : ByteArray) (x3 : ByteArray) (x4 : Int) (x5 : (List Int)) (x6 : Int) (x7 : Int) (x8 : Int) (x9 : (List Int)) (x10 : (List S34))
noncomputable def td69 : J69 → List Item
  | .j4 _ _ _ _ _ _ => fnd 4 (bodyOf Try.f69) []
  | .j8 _ _ _ _ _ _ _ _ => fnd 8 (bodyOf Try.f69) []
  | .j10 _ _ _ _ _ _ _ _ => fnd 10 (bodyOf Try.f69) []
  | .j19 _ _ _ _ _ _ _ _ _ _ _ => fnd 19 (bodyOf Try.f69) []
noncomputable def em69 : J69 → St TT
  | .j4 x0 x1 x2 x3 x4 x5 => ⟨[(0, .ptr 0 0), (3, .ptr 1 0), (4, .ptr 2 0), (5, .ptr 3 0)], [(0, .cells 94 [.row 5 x0, .v (.int .i64 x1)]), (1, .cells 27 [.row 34 x2]), (2, .cells 27 [.v (.slice none 0 0)]), (3, .cells 55 [.v (.int .i64 x3), .v (.int .i64 x4), .row 3 x5])], 4⟩
  | .j8 x0 x1 x2 x3 x4 x5 x6 x7 => ⟨[(0, .ptr 0 0), (3, .ptr 1 0), (4, .ptr 2 0), (5, .ptr 3 0), (6, .v (.int .i64 x0)), (7, .v (.int .i64 x1))], [(0, .cells 94 [.row 5 x2, .v (.int .i64 x3)]), (1, .cells 27 [.row 34 x4]), (2, .cells 27 [.v (.slice none 0 0)]), (3, .cells 55 [.v (.int .i64 x5), .v (.int .i64 x6), .row 3 x7])], 4⟩
  | .j10 x0 x1 x2 x3 x4 x5 x6 x7 => ⟨[(0, .ptr 0 0), (3, .ptr 1 0), (4, .ptr 2 0), (5, .ptr 3 0), (6, .v (.int .i64 x0)), (7, .v (.int .i64 x1))], [(0, .cells 94 [.row 5 x2, .v (.int .i64 x3)]), (1, .cells 27 [.row 34 x4]), (2, .cells 27 [.v (.slice none 0 0)]), (3, .cells 55 [.v (.int .i64 x5), .v (.int .i64 x6), .row 3 x7])], 4⟩
  | .j19 x0 x1 x2 x3 x4 x5 x6 x7 x8 x9 x10 => ⟨[(0, .ptr 0 0), (4, .ptr 1 0), (5, .ptr 2 0), (6, .v (.int .i64 x0)), (7, .v (.int .i64 x1)), (8, .v (.string x2)), (9, .v (.string x3)), (10, .ptr 3 0), (42, .v (.int .i64 x4))], [(0, .cells 94 [.row 5 x5, .v (.int .i64 x6)]), (1, .cells 27 [.v (.slice none 0 0)]), (2, .cells 55 [.v (.int .i64 x7), .v (.int .i64 x8), .row 3 x9]), (3, .cells 27 [.own 4]), (4, .arr 34 x10)], 5⟩
noncomputable def step69 (g31 : S94 × Int → Option ((Int) × S94)) (g44 : S27 × Int → Option (Bool)) (g58 : S94 × Unit → Option ((S52) × S94)) (g80 : S27 → Option (S27 × Unit)) (g81 : (List S34) × S52 × Int × ByteArray × Int × Int → Option ((Unit × Int × Int × Unit) × (List S34))) (g82 : (List S34) × S52 × Int × Int × ByteArray → Option ((Unit × Int × Unit) × (List S34))) (g83 : (List S34) × S52 × Int × ByteArray → Option ((Unit × Int × Unit) × (List S34))) (g84 : (List S34) × S52 × Int × ByteArray × Int × ByteArray → Option ((Unit × Int × Unit) × (List S34))) (g85 : (List S34) × Int × Bool → Option ((Unit × Int × Unit) × (List S34))) (g86 : (List S34) × Int × Int × ByteArray → Option ((Unit × Int × Unit) × (List S34))) (g87 : S94 × Int → Option ((ByteArray) × S94)) (go : J69 → Option ((S27 × Unit) × S94)) : J69 → Option ((S27 × Unit) × S94)
  | .j4 x0 x1 x2 x3 x4 x5 => (((g31 ((⟨x0, x1⟩ : S94), 6))).bind fun r2 => (((g31 (((r2).snd), 6))).bind fun r3 => (((g44 ((⟨x2⟩ : S27), (r2).fst))).bind fun r4 => (cond (!r4) (go (.j8 0 (r3).fst ((r3).snd).f0 ((r3).snd).f1 x2 x3 x4 x5)) (go (.j8 (r2).fst (r3).fst ((r3).snd).f0 ((r3).snd).f1 x2 x3 x4 x5))))))
  | .j8 x0 x1 x2 x3 x4 x5 x6 x7 => (((g44 ((⟨x4⟩ : S27), x1))).bind fun r5 => (cond (!r5) (go (.j10 x0 0 x2 x3 x4 x5 x6 x7)) (go (.j10 x0 x1 x2 x3 x4 x5 x6 x7))))
  | .j10 x0 x1 x2 x3 x4 x5 x6 x7 => (((g31 ((⟨x2, x3⟩ : S94), 4))).bind fun r6 => (cond (decide ((0 : Int) ≤ (r6).fst)) (cond (decide (((r6).fst : Int) < 4)) (cond (decide ((0 : Int) ≤ (r6).fst)) (cond (decide (((r6).fst : Int) < 4)) (((g31 (((r6).snd), 4))).bind fun r7 => (cond (decide ((0 : Int) ≤ (r7).fst)) (cond (decide (((r7).fst : Int) < 4)) (cond (decide ((0 : Int) ≤ (r7).fst)) (cond (decide (((r7).fst : Int) < 4)) (((g80 (⟨x4⟩ : S27))).bind fun r8 => (((g31 (((r7).snd), 10))).bind fun r9 => (cond (((r9).fst : Int) == 0) (cond (((r9).fst : Int) == 0) (((g31 (((r9).snd), 2))).bind fun r10 => (((g31 (((r10).snd), 3))).bind fun r11 => (cond (decide ((0 : Int) ≤ (r11).fst)) (cond (decide (((r11).fst : Int) < 3)) (cond (decide ((0 : Int) ≤ (r11).fst)) (cond (decide (((r11).fst : Int) < 3)) (((g81 (((r8).fst).f0, ((⟨x5, x6, x7⟩ : S52), (x0, ((rd9 [(⟨#[97]⟩ : ByteArray), (⟨#[98]⟩ : ByteArray), (⟨#[99]⟩ : ByteArray), (⟨#[97, 98]⟩ : ByteArray)] (r6).fst), ((w64 (1 + (r10).fst)), (rd3 [493, 511, 448] (r11).fst)))))))).bind fun r12 => (some (((⟨(r12).snd⟩ : S27), ()), ((r11).snd)))) none) none) none) none))) (go (.j19 x0 x1 (rd9 [(⟨#[97]⟩ : ByteArray), (⟨#[98]⟩ : ByteArray), (⟨#[99]⟩ : ByteArray), (⟨#[97, 98]⟩ : ByteArray)] (r6).fst) (rd9 [(⟨#[97]⟩ : ByteArray), (⟨#[98]⟩ : ByteArray), (⟨#[99]⟩ : ByteArray), (⟨#[97, 98]⟩ : ByteArray)] (r7).fst) (r9).fst ((r9).snd).f0 ((r9).snd).f1 x5 x6 x7 ((r8).fst).f0))) (cond (((r9).fst : Int) == 1) (cond (((r9).fst : Int) == 1) (((g31 (((r9).snd), 2))).bind fun r13 => (((g31 (((r13).snd), 3))).bind fun r14 => (cond (decide ((0 : Int) ≤ (r14).fst)) (cond (decide (((r14).fst : Int) < 3)) (cond (decide ((0 : Int) ≤ (r14).fst)) (cond (decide (((r14).fst : Int) < 3)) (((g81 (((r8).fst).f0, ((⟨x5, x6, x7⟩ : S52), (x0, ((rd9 [(⟨#[97]⟩ : ByteArray), (⟨#[98]⟩ : ByteArray), (⟨#[99]⟩ : ByteArray), (⟨#[97, 98]⟩ : ByteArray)] (r6).fst), ((w64 (1 + (r13).fst)), (rd3 [493, 511, 448] (r14).fst)))))))).bind fun r15 => (some (((⟨(r15).snd⟩ : S27), ()), ((r14).snd)))) none) none) none) none))) (go (.j19 x0 x1 (rd9 [(⟨#[97]⟩ : ByteArray), (⟨#[98]⟩ : ByteArray), (⟨#[99]⟩ : ByteArray), (⟨#[97, 98]⟩ : ByteArray)] (r6).fst) (rd9 [(⟨#[97]⟩ : ByteArray), (⟨#[98]⟩ : ByteArray), (⟨#[99]⟩ : ByteArray), (⟨#[97, 98]⟩ : ByteArray)] (r7).fst) (r9).fst ((r9).snd).f0 ((r9).snd).f1 x5 x6 x7 ((r8).fst).f0))) (cond (((r9).fst : Int) == 2) (((g31 (((r9).snd), 2))).bind fun r16 => (((g31 (((r16).snd), 3))).bind fun r17 => (cond (decide ((0 : Int) ≤ (r17).fst)) (cond (decide (((r17).fst : Int) < 3)) (cond (decide ((0 : Int) ≤ (r17).fst)) (cond (decide (((r17).fst : Int) < 3)) (((g81 (((r8).fst).f0, ((⟨x5, x6, x7⟩ : S52), (x0, ((rd9 [(⟨#[97]⟩ : ByteArray), (⟨#[98]⟩ : ByteArray), (⟨#[99]⟩ : ByteArray), (⟨#[97, 98]⟩ : ByteArray)] (r6).fst), ((w64 (1 + (r16).fst)), (rd3 [493, 511, 448] (r17).fst)))))))).bind fun r18 => (some (((⟨(r18).snd⟩ : S27), ()), ((r17).snd)))) none) none) none) none))) (go (.j19 x0 x1 (rd9 [(⟨#[97]⟩ : ByteArray), (⟨#[98]⟩ : ByteArray), (⟨#[99]⟩ : ByteArray), (⟨#[97, 98]⟩ : ByteArray)] (r6).fst) (rd9 [(⟨#[97]⟩ : ByteArray), (⟨#[98]⟩ : ByteArray), (⟨#[99]⟩ : ByteArray), (⟨#[97, 98]⟩ : ByteArray)] (r7).fst) (r9).fst ((r9).snd).f0 ((r9).snd).f1 x5 x6 x7 ((r8).fst).f0))))))) none) none) none) none)) none) none) none) none))
  | .j19 x0 x1 x2 x3 x4 x5 x6 x7 x8 x9 x10 => (cond ((x4 : Int) == 3) (((g82 (x10, ((⟨x7, x8, x9⟩ : S52), (x1, (x0, x2)))))).bind fun r19 => (some (((⟨(r19).snd⟩ : S27), ()), (⟨x5, x6⟩ : S94)))) (cond ((x4 : Int) == 4) (((g83 (x10, ((⟨x7, x8, x9⟩ : S52), (x0, x2))))).bind fun r20 => (some (((⟨(r20).snd⟩ : S27), ()), (⟨x5, x6⟩ : S94)))) (cond ((x4 : Int) == 5) (((g84 (x10, ((⟨x7, x8, x9⟩ : S52), (x0, (x2, (x1, x3))))))).bind fun r21 => (some (((⟨(r21).snd⟩ : S27), ()), (⟨x5, x6⟩ : S94)))) (cond ((x4 : Int) == 6) (((g31 ((⟨x5, x6⟩ : S94), 3))).bind fun r22 => (((g85 (x10, (x0, (decide (((r22).fst : Int) > 0)))))).bind fun r23 => (some (((⟨(r23).snd⟩ : S27), ()), ((r22).snd))))) (cond ((x4 : Int) == 7) (cond (decide ((0 : Int) ≤ x0)) (cond (decide ((x0 : Int) < (((x10).length : Nat) : Int))) (cond (decide ((0 : Int) ≤ x0)) (cond (decide ((x0 : Int) < (((x10).length : Nat) : Int))) (cond ((((rd34 x10 x0)).f0 : Int) == 1) (((g31 ((⟨x5, x6⟩ : S94), 2))).bind fun r24 => (cond (decide ((0 : Int) ≤ x0)) (cond (decide ((x0 : Int) < (((x10).length : Nat) : Int))) (cond (decide ((0 : Int) ≤ x0)) (cond (decide ((x0 : Int) < (((x10).length : Nat) : Int))) (some (((⟨(List.set x10 (x0).toNat (⟨((rd34 x10 x0)).f0, ((rd34 x10 x0)).f1, ((rd34 x10 x0)).f2, ((rd34 x10 x0)).f3, ((rd34 x10 x0)).f4, ((rd34 x10 x0)).f5, (((r24).fst : Int) == 0), ((rd34 x10 x0)).f7, ((rd34 x10 x0)).f8⟩ : S34))⟩ : S27), ()), ((r24).snd))) none) none) none) none)) (some (((⟨x10⟩ : S27), ()), (⟨x5, x6⟩ : S94)))) none) none) none) none) (((g31 ((⟨x5, x6⟩ : S94), 20))).bind fun r25 => (((g87 (((r25).snd), 9))).bind fun r26 => (((g86 (x10, (x0, ((r25).fst, (r26).fst))))).bind fun r27 => (some (((⟨(r27).snd⟩ : S27), ()), ((r26).snd)))))))))))
noncomputable def start69 (g31 : S94 × Int → Option ((Int) × S94)) (g44 : S27 × Int → Option (Bool)) (g58 : S94 × Unit → Option ((S52) × S94)) (g80 : S27 → Option (S27 × Unit)) (g81 : (List S34) × S52 × Int × ByteArray × Int × Int → Option ((Unit × Int × Int × Unit) × (List S34))) (g82 : (List S34) × S52 × Int × Int × ByteArray → Option ((Unit × Int × Unit) × (List S34))) (g83 : (List S34) × S52 × Int × ByteArray → Option ((Unit × Int × Unit) × (List S34))) (g84 : (List S34) × S52 × Int × ByteArray × Int × ByteArray → Option ((Unit × Int × Unit) × (List S34))) (g85 : (List S34) × Int × Bool → Option ((Unit × Int × Unit) × (List S34))) (g86 : (List S34) × Int × Int × ByteArray → Option ((Unit × Int × Unit) × (List S34))) (g87 : S94 × Int → Option ((ByteArray) × S94)) (go : J69 → Option ((S27 × Unit) × S94)) : S94 × S27 → Option ((S27 × Unit) × S94)
  | (x0, x1) => (((g58 ((x0), ()))).bind fun r0 => (((g31 (((r0).snd), 2))).bind fun r1 => (cond (((r1).fst : Int) == 0) (go (.j4 ((r1).snd).f0 ((r1).snd).f1 (x1).f0 0 ((r0).fst).f1 ((r0).fst).f2)) (go (.j4 ((r1).snd).f0 ((r1).snd).f1 (x1).f0 ((r0).fst).f0 ((r0).fst).f1 ((r0).fst).f2)))))
noncomputable def f69 (k : Nat) : S94 × S27 → Option ((S27 × Unit) × S94) := start69 (f31 k) (f44 k) (f58 k) (f80 k) (f81 k) (f82 k) (f83 k) (f84 k) (f85 k) (f86 k) (f87 k) (run (step69 (f31 k) (f44 k) (f58 k) (f80 k) (f81 k) (f82 k) (f83 k) (f84 k) (f85 k) (f86 k) (f87 k)) k)
theorem st69 (E : Bool) (g31 : S94 × Int → Option ((Int) × S94)) (g44 : S27 × Int → Option (Bool)) (g58 : S94 × Unit → Option ((S52) × S94)) (g80 : S27 → Option (S27 × Unit)) (g81 : (List S34) × S52 × Int × ByteArray × Int × Int → Option ((Unit × Int × Int × Unit) × (List S34))) (g82 : (List S34) × S52 × Int × Int × ByteArray → Option ((Unit × Int × Unit) × (List S34))) (g83 : (List S34) × S52 × Int × ByteArray → Option ((Unit × Int × Unit) × (List S34))) (g84 : (List S34) × S52 × Int × ByteArray × Int × ByteArray → Option ((Unit × Int × Unit) × (List S34))) (g85 : (List S34) × Int × Bool → Option ((Unit × Int × Unit) × (List S34))) (g86 : (List S34) × Int × Int × ByteArray → Option ((Unit × Int × Unit) × (List S34))) (g87 : S94 × Int → Option ((ByteArray) × S94)) (G : List Item → St TT → Option ((S27 × Unit) × S94)) (p : J69) : evFrom (F69 E g31 g44 g58 g80 g81 g82 g83 g84 g85 g86 g87) G 3000 (td69 p) (em69 p) = step69 g31 g44 g58 g80 g81 g82 g83 g84 g85 g86 g87 (fun q => G (td69 q) (em69 q)) p := by
  cases p <;> kernel_rfl
theorem en69 (E : Bool) (g31 : S94 × Int → Option ((Int) × S94)) (g44 : S27 × Int → Option (Bool)) (g58 : S94 × Unit → Option ((S52) × S94)) (g80 : S27 → Option (S27 × Unit)) (g81 : (List S34) × S52 × Int × ByteArray × Int × Int → Option ((Unit × Int × Int × Unit) × (List S34))) (g82 : (List S34) × S52 × Int × Int × ByteArray → Option ((Unit × Int × Unit) × (List S34))) (g83 : (List S34) × S52 × Int × ByteArray → Option ((Unit × Int × Unit) × (List S34))) (g84 : (List S34) × S52 × Int × ByteArray × Int × ByteArray → Option ((Unit × Int × Unit) × (List S34))) (g85 : (List S34) × Int × Bool → Option ((Unit × Int × Unit) × (List S34))) (g86 : (List S34) × Int × Int × ByteArray → Option ((Unit × Int × Unit) × (List S34))) (g87 : S94 × Int → Option ((ByteArray) × S94)) (G : List Item → St TT → Option ((S27 × Unit) × S94)) (a : S94 × S27) : ev (F69 E g31 g44 g58 g80 g81 g82 g83 g84 g85 g86 g87) G 3000 [.code (bodyOf Try.f69)] (st1 false ((Db.cells (uu E) 94).en a.1) ((Dl.one (Dc.agg (uu E) 27)).en a.2)) = start69 g31 g44 g58 g80 g81 g82 g83 g84 g85 g86 g87 (fun q => G (td69 q) (em69 q)) a := by
  obtain ⟨x0, x1⟩ := a
  kernel_rfl
theorem snd69 (E : Bool) (k : Nat) : SndL Try.prog (UU E) 69 false (WLK (Db.cells (uu E) 94) (Dl.one (Dc.agg (uu E) 27)) (f69 k) (Dk.ago (uu E) 27 (Dk.nil (UU E)))) := by
  refine sndLK_fn (F := F69 E (f31 k) (f44 k) (f58 k) (f80 k) (f81 k) (f82 k) (f83 k) (f84 k) (f85 k) (f86 k) (f87 k)) (fn := Try.f69) (body := bodyOf Try.f69) ⟨(uu E), tbl_ok ⟨snd31 E k, snd44 E k, snd58 E k, snd80 E k, snd81 E k, snd82 E k, snd83 E k, snd84 E k, snd85 E k, snd86 E k, snd87 E k, trivial⟩, mixed⟩ rfl rfl (by intro y; rfl) (by kernel_rfl) (by kernel_rfl) (by kernel_rfl) rfl rfl rfl (fun a => Nat.le_of_ble_eq_true rfl) ?_
  intro y a r h
  refine ⟨3000, k, ?_⟩
  refine (en69 E (f31 k) (f44 k) (f58 k) (f80 k) (f81 k) (f82 k) (f83 k) (f84 k) (f85 k) (f86 k) (f87 k) _ (y, a)).trans ?_
  rw [show (fun q => evJ (F69 E (f31 k) (f44 k) (f58 k) (f80 k) (f81 k) (f82 k) (f83 k) (f84 k) (f85 k) (f86 k) (f87 k)) 3000 k (td69 q) (em69 q)) = run (step69 (f31 k) (f44 k) (f58 k) (f80 k) (f81 k) (f82 k) (f83 k) (f84 k) (f85 k) (f86 k) (f87 k)) k from funext fun q => evJ_run _ _ _ (st69 E (f31 k) (f44 k) (f58 k) (f80 k) (f81 k) (f82 k) (f83 k) (f84 k) (f85 k) (f86 k) (f87 k)) k q]
  exact h
noncomputable def F47 (g12 : Int × Int → Option (S27 × Bool × Unit)) (g31 : S94 × Int → Option ((Int) × S94)) (g59 : S94 × Unit → Option ((ByteArray) × S94)) (g69 : S94 × S27 → Option ((S27 × Unit) × S94)) : Fn TT ((S27) × S94) := ⟨Try.prog, (UU true), tbl [(12, .plain (WK (Dl.cons (Dc.int (UU true) .i64) (Dl.one (Dc.int (UU true) .i64))) g12 (Dk.ago (uu true) 27 (Dk.val (Dc.bool (UU true)) (Dk.nil (UU true)))))), (31, .lent false (WL (Db.cells (uu true) 94) (Dl.one (Dc.int (UU true) .i64)) g31 (Dc.int (UU true) .i64))), (59, .lent false (WL (Db.cells (uu true) 94) (Dl.nil (UU true)) g59 (Dc.str (UU true)))), (69, .lent false (WLK (Db.cells (uu true) 94) (Dl.one (Dc.agg (uu true) 27)) g69 (Dk.ago (uu true) 27 (Dk.nil (UU true)))))], Try.f47.ntmps, Try.f47.results.toList, [27], true, 1, annOf [(3, [0, 2, 3, 5])], finL (Dc.agg (uu true) 27) (Db.cells (uu true) 94)⟩
inductive J47 where
  | j3 (x0 : Int) (x1 : (List Int)) (x2 : Int) (x3 : (List S34))
noncomputable def td47 : J47 → List Item
  | .j3 _ _ _ _ => fnd 3 (bodyOf Try.f47) []
noncomputable def em47 : J47 → St TT
  | .j3 x0 x1 x2 x3 => ⟨[(0, .ptr 0 0), (2, .ptr 1 0), (3, .ptr 2 0), (5, .v (.int .i64 x0))], [(1000003, .mark), (0, .cells 94 [.row 5 x1, .v (.int .i64 x2)]), (1, .cells 27 [.v (.slice none 0 0)]), (2, .cells 27 [.own 3]), (3, .arr 34 x3)], 4⟩
noncomputable def step47 (g12 : Int × Int → Option (S27 × Bool × Unit)) (g31 : S94 × Int → Option ((Int) × S94)) (g59 : S94 × Unit → Option ((ByteArray) × S94)) (g69 : S94 × S27 → Option ((S27 × Unit) × S94)) (go : J47 → Option ((S27) × S94)) : J47 → Option ((S27) × S94)
  | .j3 x0 x1 x2 x3 => (cond (decide ((x0 : Int) > 0)) (((g69 ((⟨x1, x2⟩ : S94), (⟨x3⟩ : S27)))).bind fun r4 => (go (.j3 (w64 (x0 - 1)) ((r4).snd).f0 ((r4).snd).f1 (((r4).fst).fst).f0))) (((g31 ((⟨x1, x2⟩ : S94), 24))).bind fun r5 => (cond (((r5).fst : Int) == 0) (((g31 (((r5).snd), 5))).bind fun r6 => (((g31 (((r6).snd), 3))).bind fun r7 => (cond (decide ((0 : Int) ≤ (r6).fst)) (cond (decide (((r6).fst : Int) < (((x3).length : Nat) : Int))) (cond (decide ((0 : Int) ≤ (r6).fst)) (cond (decide (((r6).fst : Int) < (((x3).length : Nat) : Int))) (some ((⟨(List.set x3 ((r6).fst).toNat (⟨((rd34 x3 (r6).fst)).f0, ((rd34 x3 (r6).fst)).f1, ((rd34 x3 (r6).fst)).f2, ((rd34 x3 (r6).fst)).f3, (r7).fst, ((rd34 x3 (r6).fst)).f5, ((rd34 x3 (r6).fst)).f6, ((rd34 x3 (r6).fst)).f7, ((rd34 x3 (r6).fst)).f8⟩ : S34))⟩ : S27), ((r7).snd))) none) none) none) none))) (cond (((r5).fst : Int) == 1) (((g31 (((r5).snd), 5))).bind fun r8 => (((g31 (((r8).snd), 5))).bind fun r9 => (cond (decide ((0 : Int) ≤ (r9).fst)) (cond (decide (((r9).fst : Int) < (((x3).length : Nat) : Int))) (cond (decide ((0 : Int) ≤ (r9).fst)) (cond (decide (((r9).fst : Int) < (((x3).length : Nat) : Int))) (((g59 (((r9).snd), ()))).bind fun r10 => (((g31 (((r10).snd), 11))).bind fun r11 => (cond (decide ((((((rd34 x3 (r9).fst)).f8).length + ([(⟨(r10).fst, (r11).fst⟩ : S47)]).length) * 24) ≤ 140737488355328)) (cond (decide ((0 : Int) ≤ (r8).fst)) (cond (decide (((r8).fst : Int) < (((x3).length : Nat) : Int))) (cond (decide ((0 : Int) ≤ (r8).fst)) (cond (decide (((r8).fst : Int) < (((x3).length : Nat) : Int))) (some ((⟨(List.set x3 ((r8).fst).toNat (⟨((rd34 x3 (r8).fst)).f0, ((rd34 x3 (r8).fst)).f1, ((rd34 x3 (r8).fst)).f2, ((rd34 x3 (r8).fst)).f3, ((rd34 x3 (r8).fst)).f4, ((rd34 x3 (r8).fst)).f5, ((rd34 x3 (r8).fst)).f6, ((rd34 x3 (r8).fst)).f7, (((rd34 x3 (r9).fst)).f8 ++ [(⟨(r10).fst, (r11).fst⟩ : S47)])⟩ : S34))⟩ : S27), ((r11).snd))) none) none) none) none) none))) none) none) none) none))) (cond (((r5).fst : Int) == 2) (((g31 (((r5).snd), 5))).bind fun r12 => (((g31 (((r12).snd), 4))).bind fun r13 => (cond (decide ((0 : Int) ≤ (r12).fst)) (cond (decide (((r12).fst : Int) < (((x3).length : Nat) : Int))) (cond (decide ((0 : Int) ≤ (r12).fst)) (cond (decide (((r12).fst : Int) < (((x3).length : Nat) : Int))) (some ((⟨(List.set x3 ((r12).fst).toNat (⟨(r13).fst, ((rd34 x3 (r12).fst)).f1, ((rd34 x3 (r12).fst)).f2, ((rd34 x3 (r12).fst)).f3, ((rd34 x3 (r12).fst)).f4, ((rd34 x3 (r12).fst)).f5, ((rd34 x3 (r12).fst)).f6, ((rd34 x3 (r12).fst)).f7, ((rd34 x3 (r12).fst)).f8⟩ : S34))⟩ : S27), ((r13).snd))) none) none) none) none))) (cond (((r5).fst : Int) == 3) (cond (decide ((1 : Int) ≤ (((x3).length : Nat) : Int))) (some ((⟨(List.drop 1 (List.take (x3).length x3))⟩ : S27), ((r5).snd))) none) (cond (((r5).fst : Int) == 4) (((g31 (((r5).snd), 5))).bind fun r14 => (((g31 (((r14).snd), 4))).bind fun r15 => (cond (decide ((0 : Int) ≤ (r15).fst)) (cond (decide (((r15).fst : Int) < 4)) (cond (decide ((0 : Int) ≤ (r15).fst)) (cond (decide (((r15).fst : Int) < 4)) (cond (decide ((0 : Int) ≤ (r14).fst)) (cond (decide (((r14).fst : Int) < (((x3).length : Nat) : Int))) (cond (decide ((0 : Int) ≤ (r14).fst)) (cond (decide (((r14).fst : Int) < (((x3).length : Nat) : Int))) (some ((⟨(List.set x3 ((r14).fst).toNat (⟨((rd34 x3 (r14).fst)).f0, ((rd34 x3 (r14).fst)).f1, ((rd34 x3 (r14).fst)).f2, ((rd34 x3 (r14).fst)).f3, ((rd34 x3 (r14).fst)).f4, (rd3 [99, 100, (-1), 0] (r15).fst), ((rd34 x3 (r14).fst)).f6, ((rd34 x3 (r14).fst)).f7, ((rd34 x3 (r14).fst)).f8⟩ : S34))⟩ : S27), ((r15).snd))) none) none) none) none) none) none) none) none))) (some ((⟨x3⟩ : S27), ((r5).snd))))))))))
noncomputable def start47 (g12 : Int × Int → Option (S27 × Bool × Unit)) (g31 : S94 × Int → Option ((Int) × S94)) (g59 : S94 × Unit → Option ((ByteArray) × S94)) (g69 : S94 × S27 → Option ((S27 × Unit) × S94)) (go : J47 → Option ((S27) × S94)) : S94 × Unit → Option ((S27) × S94)
  | (x0, _) => (((g31 ((x0), 3))).bind fun r0 => (((g31 (((r0).snd), 3))).bind fun r1 => (cond (decide ((0 : Int) ≤ (r1).fst)) (cond (decide (((r1).fst : Int) < 3)) (cond (decide ((0 : Int) ≤ (r1).fst)) (cond (decide (((r1).fst : Int) < 3)) (((g12 ((r0).fst, (rd3 [493, 511, 448] (r1).fst)))).bind fun r2 => (((g31 (((r1).snd), 16))).bind fun r3 => (go (.j3 (r3).fst ((r3).snd).f0 ((r3).snd).f1 ((r2).fst).f0)))) none) none) none) none)))
noncomputable def f47 (k : Nat) : S94 × Unit → Option ((S27) × S94) := start47 (f12 k) (f31 k) (f59 k) (f69 k) (run (step47 (f12 k) (f31 k) (f59 k) (f69 k)) k)
theorem st47 (g12 : Int × Int → Option (S27 × Bool × Unit)) (g31 : S94 × Int → Option ((Int) × S94)) (g59 : S94 × Unit → Option ((ByteArray) × S94)) (g69 : S94 × S27 → Option ((S27 × Unit) × S94)) (G : List Item → St TT → Option ((S27) × S94)) (p : J47) : evFrom (F47 g12 g31 g59 g69) G 3000 (td47 p) (em47 p) = step47 g12 g31 g59 g69 (fun q => G (td47 q) (em47 q)) p := by
  cases p <;> kernel_rfl
theorem en47 (g12 : Int × Int → Option (S27 × Bool × Unit)) (g31 : S94 × Int → Option ((Int) × S94)) (g59 : S94 × Unit → Option ((ByteArray) × S94)) (g69 : S94 × S27 → Option ((S27 × Unit) × S94)) (G : List Item → St TT → Option ((S27) × S94)) (a : S94 × Unit) : ev (F47 g12 g31 g59 g69) G 3000 [.code (bodyOf Try.f47)] (stM ((Db.cells (uu true) 94).en a.1)) = start47 g12 g31 g59 g69 (fun q => G (td47 q) (em47 q)) a := by
  kernel_rfl
theorem snd47 (k : Nat) : SndL Try.prog (UU false) 47 false (WL (Db.cells (uu false) 94) (Dl.nil (UU false)) (f47 k) (Dc.agg (uu false) 27)) := by
  refine sndL_dropfn (F := F47 (f12 k) (f31 k) (f59 k) (f69 k)) (fn := Try.f47) (body := bodyOf Try.f47) (b := (Db.cells (uu true) 94)) (e := (Dc.agg (uu true) 27)) ⟨(uu true), tbl_ok ⟨snd12 true k, snd31 true k, snd59 true k, snd69 true k, trivial⟩, mixed⟩ (uu false) rfl rfl rfl (fun h => by cases h) (by kernel_rfl) (by kernel_rfl) (by kernel_rfl) rfl rfl (Nat.le_of_ble_eq_true rfl) rfl (fun l a h => dlnil_de h) (fun _ => rfl) rfl (fun _ => rfl) rfl (by intro y; rfl) ?_ ?_
  · intro y
    refine emFree_cells fun c hc => ?_
    change c ∈ [.row 5 y.f0, .v (.int .i64 y.f1)] at hc
    simp only [List.mem_cons, List.not_mem_nil, or_false] at hc
    rcases hc with rfl | rfl
    · exact ⟨(fun h => by cases h), fun y c hc => by
        change c ∈ [.v (.int .u8 y)] at hc
        simp only [List.mem_singleton] at hc
        exact ⟨_, hc⟩⟩
    · exact trivial
  intro y r h
  refine ⟨3000, k, ?_⟩
  refine (en47 (f12 k) (f31 k) (f59 k) (f69 k) _ (y, ())).trans ?_
  rw [show (fun q => evJ (F47 (f12 k) (f31 k) (f59 k) (f69 k)) 3000 k (td47 q) (em47 q)) = run (step47 (f12 k) (f31 k) (f59 k) (f69 k)) k from funext fun q => evJ_run _ _ _ (st47 (f12 k) (f31 k) (f59 k) (f69 k)) k q]
  exact h
noncomputable def F48 (E : Bool) (g31 : S94 × Int → Option ((Int) × S94)) : Fn TT ((Int) × S94) := ⟨Try.prog, (UU E), tbl [(31, .lent false (WL (Db.cells (uu E) 94) (Dl.one (Dc.int (UU E) .i64)) g31 (Dc.int (UU E) .i64)))], Try.f48.ntmps, Try.f48.results.toList, [3], true, 1, annOf [], finL (Dc.int (UU E) .i64) (Db.cells (uu E) 94)⟩
noncomputable def start48 (g31 : S94 × Int → Option ((Int) × S94)) : S94 × Unit → Option ((Int) × S94)
  | (x0, _) => (((g31 ((x0), 16))).bind fun r0 => (cond (((r0).fst : Int) == 0) (((g31 (((r0).snd), 3))).bind fun r1 => (cond (decide ((0 : Int) ≤ (r1).fst)) (cond (decide (((r1).fst : Int) < 3)) (cond (decide ((0 : Int) ≤ (r1).fst)) (cond (decide (((r1).fst : Int) < 3)) (some ((rd3 [(-1), 10, 9] (r1).fst), ((r1).snd))) none) none) none) none)) (((g31 (((r0).snd), 5))).bind fun r2 => (some ((r2).fst, ((r2).snd))))))
noncomputable def f48 (k : Nat) : S94 × Unit → Option ((Int) × S94) := start48 (f31 k)
theorem en48 (E : Bool) (g31 : S94 × Int → Option ((Int) × S94)) (G : List Item → St TT → Option ((Int) × S94)) (a : S94 × Unit) : ev (F48 E g31) G 3000 [.code (bodyOf Try.f48)] (st1 false ((Db.cells (uu E) 94).en a.1) ((Dl.nil (UU E)).en a.2)) = start48 g31 a := by
  kernel_rfl
theorem snd48 (E : Bool) (k : Nat) : SndL Try.prog (UU E) 48 false (WL (Db.cells (uu E) 94) (Dl.nil (UU E)) (f48 k) (Dc.int (UU E) .i64)) := by
  refine sndL_fn (F := F48 E (f31 k)) (fn := Try.f48) (body := bodyOf Try.f48) ⟨(uu E), tbl_ok ⟨snd31 E k, trivial⟩, mixed⟩ rfl rfl (by intro y; rfl) (by kernel_rfl) (by kernel_rfl) (by kernel_rfl) rfl rfl rfl (fun a => Nat.le_of_ble_eq_true rfl) ?_
  intro y a r h
  refine ⟨3000, k, ?_⟩
  refine (en48 E (f31 k) _ (y, a)).trans ?_
  exact h
noncomputable def F28 (g30 : (List Int) → Option (S94 × Unit)) (g47 : S94 × Unit → Option ((S27) × S94)) (g48 : S94 × Unit → Option ((Int) × S94)) (g58 : S94 × Unit → Option ((S52) × S94)) (g59 : S94 × Unit → Option ((ByteArray) × S94)) : Fn TT (S27 × S52 × Int × ByteArray) := ⟨Try.prog, (UU false), tbl [(30, .plain (WK (Dl.one (Dc.row (UU false) 5)) g30 (Dk.cel (Db.cells (uu false) 94) (Dk.nil (UU false))))), (47, .lent false (WL (Db.cells (uu false) 94) (Dl.nil (UU false)) g47 (Dc.agg (uu false) 27))), (48, .lent false (WL (Db.cells (uu false) 94) (Dl.nil (UU false)) g48 (Dc.int (UU false) .i64))), (58, .lent false (WL (Db.cells (uu false) 94) (Dl.nil (UU false)) g58 (Dc.agg (uu false) 55))), (59, .lent false (WL (Db.cells (uu false) 94) (Dl.nil (UU false)) g59 (Dc.str (UU false))))], Try.f28.ntmps, Try.f28.results.toList, [27, 55, 3, 9], true, 0, annOf [], finD (Dc.tup (Dl.cons (Dc.agg (uu false) 27) (Dl.cons (Dc.agg (uu false) 55) (Dl.cons (Dc.int (UU false) .i64) (Dl.one (Dc.str (UU false)))))))⟩
noncomputable def start28 (g30 : (List Int) → Option (S94 × Unit)) (g47 : S94 × Unit → Option ((S27) × S94)) (g48 : S94 × Unit → Option ((Int) × S94)) (g58 : S94 × Unit → Option ((S52) × S94)) (g59 : S94 × Unit → Option ((ByteArray) × S94)) : (List Int) → Option (S27 × S52 × Int × ByteArray)
  | x0 => (((g30 x0)).bind fun r0 => (((g47 (((r0).fst), ()))).bind fun r1 => (((g58 (((r1).snd), ()))).bind fun r2 => (((g48 (((r2).snd), ()))).bind fun r3 => (((g59 (((r3).snd), ()))).bind fun r4 => (some (((r1).fst), (((r2).fst), ((r3).fst, (r4).fst)))))))))
noncomputable def f28 (k : Nat) : (List Int) → Option (S27 × S52 × Int × ByteArray) := start28 (f30 k) (f47 k) (f48 k) (f58 k) (f59 k)
theorem en28 (g30 : (List Int) → Option (S94 × Unit)) (g47 : S94 × Unit → Option ((S27) × S94)) (g48 : S94 × Unit → Option ((Int) × S94)) (g58 : S94 × Unit → Option ((S52) × S94)) (g59 : S94 × Unit → Option ((ByteArray) × S94)) (G : List Item → St TT → Option (S27 × S52 × Int × ByteArray)) (a : (List Int)) : ev (F28 g30 g47 g48 g58 g59) G 3000 [.code (bodyOf Try.f28)] (st0 ((Dl.one (Dc.row (UU false) 5)).en a)) = start28 g30 g47 g48 g58 g59 a := by
  kernel_rfl
theorem snd28 (k : Nat) : Snd Try.prog (UU false) 28 (W (Dl.one (Dc.row (UU false) 5)) (f28 k) (Dc.tup (Dl.cons (Dc.agg (uu false) 27) (Dl.cons (Dc.agg (uu false) 55) (Dl.cons (Dc.int (UU false) .i64) (Dl.one (Dc.str (UU false)))))))) := by
  refine snd_fn (F := F28 (f30 k) (f47 k) (f48 k) (f58 k) (f59 k)) (fn := Try.f28) (body := bodyOf Try.f28) ⟨(uu false), tbl_ok ⟨snd30 false k, snd47 k, snd48 false k, snd58 false k, snd59 false k, trivial⟩, mixed⟩ rfl rfl (by kernel_rfl) (by kernel_rfl) (by kernel_rfl) rfl rfl rfl (fun a => Nat.le_of_ble_eq_true rfl) ?_
  intro a r h
  refine ⟨3000, k, ?_⟩
  rw [en28]
  exact h
noncomputable def F9 (g24 : S27 × S52 × Int × ByteArray → Option (Int × Int)) (g26 : S27 × S52 × Int × ByteArray → Option (Int × Int)) (g28 : (List Int) → Option (S27 × S52 × Int × ByteArray)) (g29 : S52 × Int × Int × Int × Int → Option (Bool)) : Fn TT (Bool) := ⟨Try.prog, (UU false), tbl [(24, .plain (W (Dl.cons (Dc.agg (uu false) 27) (Dl.cons (Dc.agg (uu false) 55) (Dl.cons (Dc.int (UU false) .i64) (Dl.one (Dc.str (UU false)))))) g24 (Dc.tup (Dl.cons (Dc.int (UU false) .i64) (Dl.one (Dc.int (UU false) .i64)))))), (26, .plain (W (Dl.cons (Dc.agg (uu false) 27) (Dl.cons (Dc.agg (uu false) 55) (Dl.cons (Dc.int (UU false) .i64) (Dl.one (Dc.str (UU false)))))) g26 (Dc.tup (Dl.cons (Dc.int (UU false) .i64) (Dl.one (Dc.int (UU false) .i64)))))), (28, .plain (W (Dl.one (Dc.row (UU false) 5)) g28 (Dc.tup (Dl.cons (Dc.agg (uu false) 27) (Dl.cons (Dc.agg (uu false) 55) (Dl.cons (Dc.int (UU false) .i64) (Dl.one (Dc.str (UU false))))))))), (29, .plain (W (Dl.cons (Dc.agg (uu false) 55) (Dl.cons (Dc.int (UU false) .i64) (Dl.cons (Dc.int (UU false) .i64) (Dl.cons (Dc.int (UU false) .i64) (Dl.one (Dc.int (UU false) .i64)))))) g29 (Dc.bool (UU false))))], Try.f9.ntmps, Try.f9.results.toList, [4], true, 0, annOf [(7, [3, 4, 5, 6, 7, 8, 11]), (9, [3, 4, 5, 6, 7]), (12, [4, 6, 7, 12, 13, 14]), (13, [4, 6, 7, 12, 13, 14])], finD (Dc.bool (UU false))⟩
inductive J9 where
  | j7 (x0 : Int) (x1 : ByteArray) (x2 : Int) (x3 : Int) (x4 : Bool) (x5 : (List S34)) (x6 : Int) (x7 : Int) (x8 : (List Int))
  | j9 (x0 : Int) (x1 : ByteArray) (x2 : Int) (x3 : (List S34)) (x4 : Int) (x5 : Int) (x6 : (List Int))
  | j12 (x0 : ByteArray) (x1 : Int) (x2 : Bool) (x3 : Int) (x4 : Int) (x5 : Int) (x6 : (List Int)) (x7 : Int) (x8 : Int) (x9 : Int) (x10 : Int) (x11 : Int) (x12 : Int) (x13 : Bool) (x14 : ByteArray) (x15 : (List S47))
  | j13 (x0 : ByteArray) (x1 : Int) (x2 : Bool) (x3 : Int) (x4 : Int) (x5 : Int) (x6 : (List Int)) (x7 : Int) (x8 : Int) (x9 : Int) (x10 : Int) (x11 : Int) (x12 : Int) (x13 : Bool) (x14 : ByteArray) (x15 : (List S47))
noncomputable def td9 : J9 → List Item
  | .j7 _ _ _ _ _ _ _ _ _ => fnd 7 (bodyOf Try.f9) []
  | .j9 _ _ _ _ _ _ _ => fnd 9 (bodyOf Try.f9) []
  | .j12 _ _ _ _ _ _ _ _ _ _ _ _ _ _ _ _ => fnd 12 (bodyOf Try.f9) []
  | .j13 _ _ _ _ _ _ _ _ _ _ _ _ _ _ _ _ => fnd 13 (bodyOf Try.f9) []
noncomputable def em9 : J9 → St TT
  | .j7 x0 x1 x2 x3 x4 x5 x6 x7 x8 => ⟨[(3, .ptr 0 0), (4, .ptr 1 0), (5, .v (.int .i64 x0)), (6, .v (.string x1)), (7, .v (.int .i64 x2)), (8, .v (.int .i64 x3)), (11, .v (.bool x4))], [(0, .cells 27 [.row 34 x5]), (1, .cells 55 [.v (.int .i64 x6), .v (.int .i64 x7), .row 3 x8])], 2⟩
  | .j9 x0 x1 x2 x3 x4 x5 x6 => ⟨[(3, .ptr 0 0), (4, .ptr 1 0), (5, .v (.int .i64 x0)), (6, .v (.string x1)), (7, .v (.int .i64 x2))], [(0, .cells 27 [.row 34 x3]), (1, .cells 55 [.v (.int .i64 x4), .v (.int .i64 x5), .row 3 x6])], 2⟩
  | .j12 x0 x1 x2 x3 x4 x5 x6 x7 x8 x9 x10 x11 x12 x13 x14 x15 => ⟨[(4, .ptr 0 0), (6, .v (.string x0)), (7, .v (.int .i64 x1)), (12, .ptr 1 0), (13, .v (.bool x2)), (14, .v (.int .i64 x3))], [(0, .cells 55 [.v (.int .i64 x4), .v (.int .i64 x5), .row 3 x6]), (1, .cells 34 [.v (.int .i64 x7), .v (.int .i64 x8), .v (.int .i64 x9), .v (.int .i64 x10), .v (.int .i64 x11), .v (.int .i64 x12), .v (.bool x13), .v (.string x14), .row 47 x15])], 2⟩
  | .j13 x0 x1 x2 x3 x4 x5 x6 x7 x8 x9 x10 x11 x12 x13 x14 x15 => ⟨[(4, .ptr 0 0), (6, .v (.string x0)), (7, .v (.int .i64 x1)), (12, .ptr 1 0), (13, .v (.bool x2)), (14, .v (.int .i64 x3))], [(0, .cells 55 [.v (.int .i64 x4), .v (.int .i64 x5), .row 3 x6]), (1, .cells 34 [.v (.int .i64 x7), .v (.int .i64 x8), .v (.int .i64 x9), .v (.int .i64 x10), .v (.int .i64 x11), .v (.int .i64 x12), .v (.bool x13), .v (.string x14), .row 47 x15])], 2⟩
noncomputable def step9 (g24 : S27 × S52 × Int × ByteArray → Option (Int × Int)) (g26 : S27 × S52 × Int × ByteArray → Option (Int × Int)) (g28 : (List Int) → Option (S27 × S52 × Int × ByteArray)) (g29 : S52 × Int × Int × Int × Int → Option (Bool)) (go : J9 → Option (Bool)) : J9 → Option (Bool)
  | .j7 x0 x1 x2 x3 x4 x5 x6 x7 x8 => (cond (!x4) (some x4) (cond (!((x3 : Int) == 0)) (some x4) (go (.j9 x0 x1 x2 x5 x6 x7 x8))))
  | .j9 x0 x1 x2 x3 x4 x5 x6 => (cond (decide ((0 : Int) ≤ x0)) (cond (decide ((x0 : Int) < (((x3).length : Nat) : Int))) (go (.j12 x1 x2 false 0 x4 x5 x6 ((rd34 x3 x0)).f0 ((rd34 x3 x0)).f1 ((rd34 x3 x0)).f2 ((rd34 x3 x0)).f3 ((rd34 x3 x0)).f4 ((rd34 x3 x0)).f5 ((rd34 x3 x0)).f6 ((rd34 x3 x0)).f7 ((rd34 x3 x0)).f8)) none) none)
  | .j12 x0 x1 x2 x3 x4 x5 x6 x7 x8 x9 x10 x11 x12 x13 x14 x15 => (cond (decide ((x3 : Int) < (((x15).length : Nat) : Int))) (cond x2 (go (.j13 x0 x1 true x3 x4 x5 x6 x7 x8 x9 x10 x11 x12 x13 x14 x15)) (cond (decide ((0 : Int) ≤ x3)) (cond (decide ((x3 : Int) < (((x15).length : Nat) : Int))) (cond ((((rd47 x15 x3)).f0).toList == (x0).toList) (cond (decide ((0 : Int) ≤ x3)) (cond (decide ((x3 : Int) < (((x15).length : Nat) : Int))) (go (.j13 x0 x1 ((((rd47 x15 x3)).f1 : Int) == x1) x3 x4 x5 x6 x7 x8 x9 x10 x11 x12 x13 x14 x15)) none) none) (go (.j13 x0 x1 false x3 x4 x5 x6 x7 x8 x9 x10 x11 x12 x13 x14 x15))) none) none)) (cond x2 (cond ((x7 : Int) == 2) (((g29 ((⟨x4, x5, x6⟩ : S52), (x9, (x10, (x8, 1)))))).bind fun r3 => (some r3)) (some false)) (some false)))
  | .j13 x0 x1 x2 x3 x4 x5 x6 x7 x8 x9 x10 x11 x12 x13 x14 x15 => (go (.j12 x0 x1 x2 (w64 (x3 + 1)) x4 x5 x6 x7 x8 x9 x10 x11 x12 x13 x14 x15))
noncomputable def start9 (g24 : S27 × S52 × Int × ByteArray → Option (Int × Int)) (g26 : S27 × S52 × Int × ByteArray → Option (Int × Int)) (g28 : (List Int) → Option (S27 × S52 × Int × ByteArray)) (g29 : S52 × Int × Int × Int × Int → Option (Bool)) (go : J9 → Option (Bool)) : (List Int) → Option (Bool)
  | x0 => (cond (decide (((((x0).length : Nat) : Int) : Int) > 1048576)) (some true) (((g28 x0)).bind fun r0 => (((g26 (((r0).fst), ((((r0).snd).fst), ((((r0).snd).snd).fst, (((r0).snd).snd).snd))))).bind fun r1 => (((g24 (((r0).fst), ((((r0).snd).fst), ((((r0).snd).snd).fst, (((r0).snd).snd).snd))))).bind fun r2 => (cond (((r1).fst : Int) == (r2).fst) (go (.j7 (((r0).snd).snd).fst (((r0).snd).snd).snd (r1).fst (r1).snd (((r1).snd : Int) == (r2).snd) ((r0).fst).f0 (((r0).snd).fst).f0 (((r0).snd).fst).f1 (((r0).snd).fst).f2)) (go (.j7 (((r0).snd).snd).fst (((r0).snd).snd).snd (r1).fst (r1).snd false ((r0).fst).f0 (((r0).snd).fst).f0 (((r0).snd).fst).f1 (((r0).snd).fst).f2)))))))
noncomputable def f9 (k : Nat) : (List Int) → Option (Bool) := start9 (f24 k) (f26 k) (f28 k) (f29 k) (run (step9 (f24 k) (f26 k) (f28 k) (f29 k)) k)
theorem st9 (g24 : S27 × S52 × Int × ByteArray → Option (Int × Int)) (g26 : S27 × S52 × Int × ByteArray → Option (Int × Int)) (g28 : (List Int) → Option (S27 × S52 × Int × ByteArray)) (g29 : S52 × Int × Int × Int × Int → Option (Bool)) (G : List Item → St TT → Option (Bool)) (p : J9) : evFrom (F9 g24 g26 g28 g29) G 3000 (td9 p) (em9 p) = step9 g24 g26 g28 g29 (fun q => G (td9 q) (em9 q)) p := by
  cases p <;> kernel_rfl
theorem en9 (g24 : S27 × S52 × Int × ByteArray → Option (Int × Int)) (g26 : S27 × S52 × Int × ByteArray → Option (Int × Int)) (g28 : (List Int) → Option (S27 × S52 × Int × ByteArray)) (g29 : S52 × Int × Int × Int × Int → Option (Bool)) (G : List Item → St TT → Option (Bool)) (a : (List Int)) : ev (F9 g24 g26 g28 g29) G 3000 [.code (bodyOf Try.f9)] (st0 ((Dl.one (Dc.row (UU false) 5)).en a)) = start9 g24 g26 g28 g29 (fun q => G (td9 q) (em9 q)) a := by
  kernel_rfl
theorem snd9 (k : Nat) : Snd Try.prog (UU false) 9 (W (Dl.one (Dc.row (UU false) 5)) (f9 k) (Dc.bool (UU false))) := by
  refine snd_fn (F := F9 (f24 k) (f26 k) (f28 k) (f29 k)) (fn := Try.f9) (body := bodyOf Try.f9) ⟨(uu false), tbl_ok ⟨snd24 false k, snd26 false k, snd28 k, snd29 false k, trivial⟩, mixed⟩ rfl rfl (by kernel_rfl) (by kernel_rfl) (by kernel_rfl) rfl rfl rfl (fun a => Nat.le_of_ble_eq_true rfl) ?_
  intro a r h
  refine ⟨3000, k, ?_⟩
  rw [en9]
  rw [show (fun q => evJ (F9 (f24 k) (f26 k) (f28 k) (f29 k)) 3000 k (td9 q) (em9 q)) = run (step9 (f24 k) (f26 k) (f28 k) (f29 k)) k from funext fun q => evJ_run _ _ _ (st9 (f24 k) (f26 k) (f28 k) (f29 k)) k q]
  exact h
end Go.Sx
