/- LockNew of the program and of the reference make alike locks, and a second call makes one that shares no store with the first. -/
import Derived.Test.YtecniihieninjaaBdFnExactLockNew
import Derived.WideShapes
import Derived.IntWalk
import Derived.OpenShut
namespace Go.Proofs.Ytecniihieninjaa.Pure
open Go.RowKit Go.Proofs.Ytecniihieninjaa.PFnExactLockNew Go.Proofs.YtecniihieninjaaW.PrintWords Go.Proofs.YtecniihieninjaaW.PrintLast
/-! ### small facts on numbers, bytes and rounds -/
theorem w64 {n : Int} (h1 : -9223372036854775808 ≤ n) (h2 : n ≤ 9223372036854775807) : wrap64 n = n := by unfold wrap64; omega
theorem w64_range (n : Int) : -9223372036854775808 ≤ wrap64 n ∧ wrap64 n ≤ 9223372036854775807 := by unfold wrap64; omega
theorem xor_ok {x y : Int} (hx : 0 ≤ x) (hx2 : x < 4611686018427387904) (hy : 0 ≤ y) (hy2 : y < 4611686018427387904) : 0 ≤ Go.bits .xor .i64 x y ∧ Go.bits .xor .i64 x y < 4611686018427387904 := by
  have h1 : (BitVec.ofInt 64 x ^^^ BitVec.ofInt 64 y).toNat < 2 ^ 62 := by
    rw [BitVec.toNat_xor]
    apply Nat.xor_lt_two_pow
    · rw [BitVec.toNat_ofInt]; omega
    · rw [BitVec.toNat_ofInt]; omega
  have h2 : Go.bits .xor .i64 x y = ((BitVec.ofInt 64 x ^^^ BitVec.ofInt 64 y).toNat : Int) := by
    show IntKind.wrap .i64 ((BitVec.ofInt 64 x ^^^ BitVec.ofInt 64 y).toNat : Int) = _
    generalize (BitVec.ofInt 64 x ^^^ BitVec.ofInt 64 y).toNat = m at h1
    exact IntWalk.i64_in _ (by omega)
  rw [h2]; omega
theorem tmod_ok {x n : Int} (hx : 0 ≤ x) (hn : 1 ≤ n) : 0 ≤ Int.tmod x n ∧ Int.tmod x n < n := by
  rw [Int.tmod_eq_emod_of_nonneg hx]
  exact ⟨Int.emod_nonneg _ (by omega), Int.emod_lt_of_pos _ (by omega)⟩
theorem tdiv_ok {x n : Int} (hx : 0 ≤ x) (hn : 1 ≤ n) : 0 ≤ Int.tdiv x n ∧ Int.tdiv x n ≤ x := by
  rw [Int.tdiv_eq_ediv_of_nonneg hx]
  exact ⟨Int.ediv_nonneg hx (by omega), Int.ediv_le_self _ hx⟩
theorem rd_mem {xs : List Int} {i : Int} (h0 : 0 ≤ i) (h1 : i < (xs.length : Int)) : rd xs i ∈ xs := by
  have hl : i.toNat < xs.length := by omega
  unfold rd
  rw [List.getD_eq_getElem?_getD, List.getElem?_eq_getElem hl]
  exact List.getElem_mem hl
def Bytes (s : List Int) : Prop := ∀ x ∈ s, 0 ≤ x ∧ x ≤ 255
theorem bytes_of_wf {s : List Int} (h : ∀ x ∈ s, (Lit.int .u8 x).wf = true) : Bytes s := fun x hx => Go.bounds_u8 (h x hx)
theorem bytes_rd {s : List Int} (h : Bytes s) {i : Int} (h0 : 0 ≤ i) (h1 : i < (s.length : Int)) : 0 ≤ rd s i ∧ rd s i ≤ 255 := h _ (rd_mem h0 h1)
theorem toList_inj {a b : ByteArray} : a.toList = b.toList ↔ a = b := by
  rw [ByteArray.toList_eq, ByteArray.toList_eq]
  constructor
  · intro h; exact Go.WideShapes.bytes_inj h
  · rintro rfl; rfl
theorem toList_nil {a : ByteArray} : a.toList = ([] : List UInt8) ↔ a.size = 0 := by
  rw [ByteArray.toList_eq, List.eq_nil_iff_length_eq_zero, data_length]

set_option maxRecDepth 100000 in
theorem in_ok : ∀ n ∈ ([1, 2, 3, 4] : List Int), ∀ t ∈ ([0, 1, 2, 3] : List Int), laws_FnExactLockNew.f 40 n t = some true := by decide +kernel
theorem pin_eq (a b c : Int) : impl_in.f a b c = some (decide (b ≤ a ∧ a ≤ c)) := by
  unfold impl_in.f
  by_cases h : a ≥ b
  · rw [if_pos h]; congr 1; by_cases h2 : a ≤ c <;> simp [h2] <;> omega
  · rw [if_neg h]; congr 1; simp; omega
theorem pinS_eq (a b c : Int) : spec_l6In.f a b c = some (decide (b ≤ a ∧ a ≤ c)) := by
  unfold spec_l6In.f
  by_cases h : a ≥ b
  · rw [if_pos h]; congr 1; by_cases h2 : a ≤ c <;> simp [h2] <;> omega
  · rw [if_neg h]; congr 1; simp; omega
theorem impl_out {n t : Int} (h : ¬ ((1 ≤ n ∧ n ≤ 4) ∧ (0 ≤ t ∧ t ≤ 3))) (k : Nat) : impl_LockNew.f (k + 1) n t = some (0, [], [], false) := by
  unfold impl_LockNew.f
  rw [pin_eq, Option.bind_some]
  by_cases c : 1 ≤ n ∧ n ≤ 4
  · rw [if_pos (decide_eq_true c), pin_eq, Option.bind_some, decide_eq_false (fun z => h ⟨c, z⟩), impl_LockNew.j0, if_pos (by decide)]
  · rw [if_neg (by rw [decide_eq_false c]; decide), impl_LockNew.j0, if_pos rfl]
theorem spec_out {n t : Int} (h : ¬ ((1 ≤ n ∧ n ≤ 4) ∧ (0 ≤ t ∧ t ≤ 3))) (k : Nat) : spec_LockNew.f (k + 1) n t = some (0, [], [], false) := by
  unfold spec_LockNew.f
  rw [pinS_eq, Option.bind_some]
  by_cases c : 1 ≤ n ∧ n ≤ 4
  · rw [if_pos (decide_eq_true c), pinS_eq, Option.bind_some, decide_eq_false (fun z => h ⟨c, z⟩), spec_LockNew.j0, if_pos (by decide)]
  · rw [if_neg (by rw [decide_eq_false c]; decide), spec_LockNew.j0, if_pos rfl]
theorem e1 : laws_eqLock.f 40 0 [] [] 0 [] [] = some true := by decide +kernel
theorem e1' : laws_eqLock.f 39 0 [] [] 0 [] [] = some true := by decide +kernel
theorem e2 : laws_markLock.f 39 0 [] [] 1 = some (1, [], []) := rfl
theorem e3 : laws_heldLock.f 39 0 [] [] 1 = some 1 := by decide +kernel
theorem e3' : laws_heldLock.f 38 0 [] [] 1 = some 1 := by decide +kernel

theorem FnExactLockNew : BdFnExactLockNew.Pure := by
  intro n t _ _
  refine ⟨40, ?_⟩
  by_cases h : (1 ≤ n ∧ n ≤ 4) ∧ (0 ≤ t ∧ t ≤ 3)
  · exact in_ok n (by simp; omega) t (by simp; omega)
  · unfold laws_FnExactLockNew.f
    rw [spec_out h 39, Option.bind_some, impl_out h 39, Option.bind_some, e1, Option.bind_some, if_pos rfl, laws_FnExactLockNew.j0, if_neg (by decide), e2, Option.bind_some, e3, Option.bind_some, if_neg (by decide), if_pos rfl, impl_out h 38, Option.bind_some, e1', Option.bind_some, if_pos rfl, laws_FnExactLockNew.j1, if_neg (by decide), e3', Option.bind_some, if_neg (by decide), if_pos rfl]

end Go.Proofs.Ytecniihieninjaa.Pure
