/- The program's PipeLeave and the reference's answer alike at every pipe. -/
import Derived.Test.YtkjijijhecbigaaBdFnExactPipeLeave
import Derived.WideShapes
import Derived.IntWalk
import Derived.OpenShut
namespace Go.Proofs.Ytkjijijhecbigaa.Pure
open Go.RowKit Go.Proofs.Ytkjijijhecbigaa.XFnExactPipeLeave Go.Proofs.YtkjijijhecbigaaW.PrintWords Go.Proofs.YtkjijijhecbigaaW.PrintLast
/-! ### small facts on numbers, bytes and rounds -/
theorem w64 {n : Int} (h1 : -9223372036854775808 ≤ n) (h2 : n ≤ 9223372036854775807) : wrap64 n = n := by unfold wrap64; omega
theorem w64_range (n : Int) : -9223372036854775808 ≤ wrap64 n ∧ wrap64 n ≤ 9223372036854775807 := by unfold wrap64; omega
theorem xor_ok {x y : Int} (hx : 0 ≤ x) (hx2 : x < 4611686018427387904) (hy : 0 ≤ y) (hy2 : y < 4611686018427387904) : 0 ≤ Go.bits .xor .i64 x y ∧ Go.bits .xor .i64 x y < 4611686018427387904 := by
  have h1 : (BitVec.ofInt 64 x ^^^ BitVec.ofInt 64 y).toNat < 2 ^ 62 := by
    rw [BitVec.toNat_xor]
    apply Nat.xor_lt_two_pow
    · rw [BitVec.toNat_ofInt]; omega
    · rw [BitVec.toNat_ofInt]; omega
  have h2 : Go.bits .xor .i64 x y = ((BitVec.ofInt 64 x ^^^ BitVec.ofInt 64 y).toNat : Int) := by
    show IntKind.wrap .i64 ((BitVec.ofInt 64 x ^^^ BitVec.ofInt 64 y).toNat : Int) = _
    generalize (BitVec.ofInt 64 x ^^^ BitVec.ofInt 64 y).toNat = m at h1
    exact IntWalk.i64_in _ (by omega)
  rw [h2]; omega
theorem tmod_ok {x n : Int} (hx : 0 ≤ x) (hn : 1 ≤ n) : 0 ≤ Int.tmod x n ∧ Int.tmod x n < n := by
  rw [Int.tmod_eq_emod_of_nonneg hx]
  exact ⟨Int.emod_nonneg _ (by omega), Int.emod_lt_of_pos _ (by omega)⟩
theorem tdiv_ok {x n : Int} (hx : 0 ≤ x) (hn : 1 ≤ n) : 0 ≤ Int.tdiv x n ∧ Int.tdiv x n ≤ x := by
  rw [Int.tdiv_eq_ediv_of_nonneg hx]
  exact ⟨Int.ediv_nonneg hx (by omega), Int.ediv_le_self _ hx⟩
theorem rd_mem {xs : List Int} {i : Int} (h0 : 0 ≤ i) (h1 : i < (xs.length : Int)) : rd xs i ∈ xs := by
  have hl : i.toNat < xs.length := by omega
  unfold rd
  rw [List.getD_eq_getElem?_getD, List.getElem?_eq_getElem hl]
  exact List.getElem_mem hl
def Bytes (s : List Int) : Prop := ∀ x ∈ s, 0 ≤ x ∧ x ≤ 255
theorem bytes_of_wf {s : List Int} (h : ∀ x ∈ s, (Lit.int .u8 x).wf = true) : Bytes s := fun x hx => Go.bounds_u8 (h x hx)
theorem bytes_rd {s : List Int} (h : Bytes s) {i : Int} (h0 : 0 ≤ i) (h1 : i < (s.length : Int)) : 0 ≤ rd s i ∧ rd s i ≤ 255 := h _ (rd_mem h0 h1)
theorem toList_inj {a b : ByteArray} : a.toList = b.toList ↔ a = b := by
  rw [ByteArray.toList_eq, ByteArray.toList_eq]
  constructor
  · intro h; exact Go.WideShapes.bytes_inj h
  · rintro rfl; rfl
theorem toList_nil {a : ByteArray} : a.toList = ([] : List UInt8) ↔ a.size = 0 := by
  rw [ByteArray.toList_eq, List.eq_nil_iff_length_eq_zero, data_length]
/-! ### PipeOk -/
theorem in_eq (a b c : Int) : impl_in.f a b c = some (decide (b ≤ a ∧ a ≤ c)) := by
  unfold impl_in.f
  by_cases h : a ≥ b <;> simp [h]
def PipeFine (t : ByteArray) (r w : Int) : Prop := t.size ≤ 8 ∧ (0 ≤ r ∧ r ≤ 99) ∧ (0 ≤ w ∧ w ≤ 99) ∧ (0 < r ∨ t.size = 0)
instance (t : ByteArray) (r w : Int) : Decidable (PipeFine t r w) := by unfold PipeFine; infer_instance
theorem beq_nil (t : ByteArray) : (t.toList == ([] : List UInt8)) = decide (t.size = 0) := by
  rw [Bool.eq_iff_iff]
  simp only [beq_iff_eq, decide_eq_true_eq]
  exact toList_nil
theorem pipeOk_eq (t : ByteArray) (r w : Int) : impl_PipeOk.f t r w = some (decide (PipeFine t r w)) := by
  unfold impl_PipeOk.f PipeFine
  simp only [in_eq, Option.bind_some, beq_nil, decide_eq_true_eq]
  by_cases h1 : (t.size : Int) ≤ 8
  · rw [if_pos h1]
    by_cases h2 : 0 ≤ r ∧ r ≤ 99
    · rw [if_pos h2]
      by_cases h3 : 0 ≤ w ∧ w ≤ 99
      · rw [if_pos h3]
        have h1' : t.size ≤ 8 := by omega
        by_cases h4 : r > 0
        · rw [if_pos h4]; simp [h1', h2, h3, h4]
        · rw [if_neg h4]
          have h4' : ¬ 0 < r := h4
          simp [h1', h2, h3, h4']
      · rw [if_neg h3]; simp [h3]
    · rw [if_neg h2]; simp [h2]
  · rw [if_neg h1]
    have h1' : ¬ t.size ≤ 8 := by omega
    simp [h1']
theorem fine_empty : PipeFine ⟨#[]⟩ 0 0 := by unfold PipeFine; exact ⟨by decide, by omega, by omega, Or.inr rfl⟩
theorem empty_of_size {t : ByteArray} (h : t.size = 0) : t = ⟨#[]⟩ := ByteArray.size_eq_zero_iff.1 h
theorem ps_ok : ∀ t r w, PFnExactPipeJoin.impl_PipeOk.f t r w = some (decide (PipeFine t r w)) := pipeOk_eq
theorem ps_gone (t : ByteArray) (r w : Int) : PFnExactPipeJoin.impl_Pipe_gone.f t r w = some (decide (r = 0 ∧ w = 0)) := by
  unfold PFnExactPipeJoin.impl_Pipe_gone.f
  by_cases h : r = 0
  · rw [if_pos h]; simp [h]; rw [Bool.eq_iff_iff]; simp
  · rw [if_neg h]; simp [h]
/-! ### PipeLeave, of the program and of the reference -/
def leaveV (t : ByteArray) (r w : Int) (b : Bool) : ByteArray × Int × Int × Bool :=
  if PipeFine t r w ∧ (if b = true then r ≠ 0 else w ≠ 0) then ((if (if b = true then r - 1 else r) = 0 then (⟨#[]⟩ : ByteArray) else t), (if b = true then r - 1 else r), (if b = true then w else w - 1), true) else (⟨#[]⟩, 0, 0, false)
theorem leave_impl (t : ByteArray) (r w : Int) (b : Bool) : PS.impl_PipeLeave.f t r w b = some (leaveV t r w b) := by
  unfold PS.impl_PipeLeave.f leaveV
  rw [ps_ok, Option.bind_some]
  by_cases h1 : PipeFine t r w
  · obtain ⟨_, hr, hw, hz⟩ := id h1
    rw [if_pos (decide_eq_true h1)]
    cases b with
    | true =>
      rw [if_pos rfl]
      by_cases h3 : r = 0
      · rw [if_pos h3, if_neg (fun z => by have := z.2; rw [if_pos rfl] at this; exact this h3)]
      · rw [if_neg h3, if_pos (show PipeFine t r w ∧ (if true = true then r ≠ 0 else w ≠ 0) from ⟨h1, by rw [if_pos rfl]; exact h3⟩), w64 (by omega) (by omega), ps_gone, Option.bind_some]
        simp only [if_true]
        by_cases h4 : r - 1 = 0
        · by_cases h5 : w = 0
          · simp [h4, h5]
          · simp [h4, h5]
        · simp [h4]
    | false =>
      rw [if_neg (by decide)]
      by_cases h3 : w = 0
      · rw [if_pos h3, if_neg (fun z => by have := z.2; rw [if_neg (by decide)] at this; exact this h3)]
      · rw [if_neg h3, if_pos (show PipeFine t r w ∧ (if false = true then r ≠ 0 else w ≠ 0) from ⟨h1, by rw [if_neg (by decide)]; exact h3⟩), w64 (by omega) (by omega), ps_gone, Option.bind_some]
        have ht : r = 0 → t = ⟨#[]⟩ := fun z => empty_of_size (by omega)
        by_cases h4 : r = 0
        · have := ht h4; subst this
          by_cases h5 : w - 1 = 0
          · simp [h4, h5]
          · simp [h4, h5]
        · simp [h4]
  · rw [if_neg (by simpa using h1), if_neg (fun z => h1 z.1)]
theorem leave_spec (t : ByteArray) (r w : Int) (b : Bool) : spec_PipeLeave.f t r w b = some (leaveV t r w b) := by
  have es : spec_PipeOk.f t r w = some (decide (PipeFine t r w)) := pipeOk_eq t r w
  unfold spec_PipeLeave.f leaveV
  rw [es, Option.bind_some]
  by_cases h1 : PipeFine t r w
  · obtain ⟨_, hr, hw, hz⟩ := id h1
    rw [if_pos (decide_eq_true h1)]
    unfold spec_l9Leave.f
    cases b with
    | true =>
      rw [if_pos rfl]
      by_cases h3 : r = 0
      · rw [if_pos h3, if_neg (fun z => by have := z.2; rw [if_pos rfl] at this; exact this h3)]
      · rw [if_neg h3, if_pos (show PipeFine t r w ∧ (if true = true then r ≠ 0 else w ≠ 0) from ⟨h1, by rw [if_pos rfl]; exact h3⟩), w64 (n := r - 1) (by omega) (by omega)]
        by_cases h4 : r - 1 = 0
        · simp [h4]
        · simp [h4]
    | false =>
      rw [if_neg (by decide)]
      by_cases h3 : w = 0
      · rw [if_pos h3, if_neg (fun z => by have := z.2; rw [if_neg (by decide)] at this; exact this h3)]
      · rw [if_neg h3, if_pos (show PipeFine t r w ∧ (if false = true then r ≠ 0 else w ≠ 0) from ⟨h1, by rw [if_neg (by decide)]; exact h3⟩), w64 (n := w - 1) (by omega) (by omega)]
        by_cases h4 : r = 0
        · simp [h4]
        · simp [h4]
  · rw [if_neg (by simpa using h1), if_neg (fun z => h1 z.1)]

theorem FnExactPipeLeave : BdFnExactPipeLeave.Pure := by
  intro t r w b _
  unfold laws_FnExactPipeLeave.f laws_toPipe.f
  have hs : ∃ x, laws_szPipe.f t r w 1048576 = some x := by
    unfold laws_szPipe.f
    split <;> exact ⟨_, rfl⟩
  obtain ⟨x, hx⟩ := hs
  rw [hx, Option.bind_some]
  by_cases c : x < 0
  · rw [if_pos c]
  · rw [if_neg c]
    simp only [Option.bind_some]
    rw [leave_spec t r w b, leave_impl t r w b]
    simp only [Option.bind_some]
    unfold laws_eqPipe.f
    simp

end Go.Proofs.Ytkjijijhecbigaa.Pure
