/- The program's PipeTake and the reference's answer alike at every pipe and every number. -/
import Derived.Test.YtdcblmmfomjhcaaBdFnExactPipeTake
import Derived.WideShapes
import Derived.IntWalk
import Derived.OpenShut
namespace Go.Proofs.Ytdcblmmfomjhcaa.Pure
open Go.RowKit Go.Proofs.Ytdcblmmfomjhcaa.PFnExactPipeTake Go.Proofs.YtdcblmmfomjhcaaW.PrintWords Go.Proofs.YtdcblmmfomjhcaaW.PrintLast

/-! ### small facts on numbers, bytes and rounds -/
theorem w64 {n : Int} (h1 : -9223372036854775808 ≤ n) (h2 : n ≤ 9223372036854775807) : wrap64 n = n := by unfold wrap64; omega
theorem w64_range (n : Int) : -9223372036854775808 ≤ wrap64 n ∧ wrap64 n ≤ 9223372036854775807 := by unfold wrap64; omega
theorem xor_ok {x y : Int} (hx : 0 ≤ x) (hx2 : x < 4611686018427387904) (hy : 0 ≤ y) (hy2 : y < 4611686018427387904) : 0 ≤ Go.bits .xor .i64 x y ∧ Go.bits .xor .i64 x y < 4611686018427387904 := by
  have h1 : (BitVec.ofInt 64 x ^^^ BitVec.ofInt 64 y).toNat < 2 ^ 62 := by
    rw [BitVec.toNat_xor]
    apply Nat.xor_lt_two_pow
    · rw [BitVec.toNat_ofInt]; omega
    · rw [BitVec.toNat_ofInt]; omega
  have h2 : Go.bits .xor .i64 x y = ((BitVec.ofInt 64 x ^^^ BitVec.ofInt 64 y).toNat : Int) := by
    show IntKind.wrap .i64 ((BitVec.ofInt 64 x ^^^ BitVec.ofInt 64 y).toNat : Int) = _
    generalize (BitVec.ofInt 64 x ^^^ BitVec.ofInt 64 y).toNat = m at h1
    exact IntWalk.i64_in _ (by omega)
  rw [h2]; omega
theorem tmod_ok {x n : Int} (hx : 0 ≤ x) (hn : 1 ≤ n) : 0 ≤ Int.tmod x n ∧ Int.tmod x n < n := by
  rw [Int.tmod_eq_emod_of_nonneg hx]
  exact ⟨Int.emod_nonneg _ (by omega), Int.emod_lt_of_pos _ (by omega)⟩
theorem tdiv_ok {x n : Int} (hx : 0 ≤ x) (hn : 1 ≤ n) : 0 ≤ Int.tdiv x n ∧ Int.tdiv x n ≤ x := by
  rw [Int.tdiv_eq_ediv_of_nonneg hx]
  exact ⟨Int.ediv_nonneg hx (by omega), Int.ediv_le_self _ hx⟩
theorem rd_mem {xs : List Int} {i : Int} (h0 : 0 ≤ i) (h1 : i < (xs.length : Int)) : rd xs i ∈ xs := by
  have hl : i.toNat < xs.length := by omega
  unfold rd
  rw [List.getD_eq_getElem?_getD, List.getElem?_eq_getElem hl]
  exact List.getElem_mem hl
def Bytes (s : List Int) : Prop := ∀ x ∈ s, 0 ≤ x ∧ x ≤ 255
theorem bytes_of_wf {s : List Int} (h : ∀ x ∈ s, (Lit.int .u8 x).wf = true) : Bytes s := fun x hx => Go.bounds_u8 (h x hx)
theorem bytes_rd {s : List Int} (h : Bytes s) {i : Int} (h0 : 0 ≤ i) (h1 : i < (s.length : Int)) : 0 ≤ rd s i ∧ rd s i ≤ 255 := h _ (rd_mem h0 h1)
theorem toList_inj {a b : ByteArray} : a.toList = b.toList ↔ a = b := by
  rw [ByteArray.toList_eq, ByteArray.toList_eq]
  constructor
  · intro h; exact Go.WideShapes.bytes_inj h
  · rintro rfl; rfl
theorem toList_nil {a : ByteArray} : a.toList = ([] : List UInt8) ↔ a.size = 0 := by
  rw [ByteArray.toList_eq, List.eq_nil_iff_length_eq_zero, data_length]
/-! ### PipeOk -/
theorem in_eq (a b c : Int) : impl_in.f a b c = some (decide (b ≤ a ∧ a ≤ c)) := by
  unfold impl_in.f
  by_cases h : a ≥ b <;> simp [h]
def PipeFine (t : ByteArray) (r w : Int) : Prop := t.size ≤ 8 ∧ (0 ≤ r ∧ r ≤ 99) ∧ (0 ≤ w ∧ w ≤ 99) ∧ (0 < r ∨ t.size = 0)
instance (t : ByteArray) (r w : Int) : Decidable (PipeFine t r w) := by unfold PipeFine; infer_instance
theorem beq_nil (t : ByteArray) : (t.toList == ([] : List UInt8)) = decide (t.size = 0) := by
  rw [Bool.eq_iff_iff]
  simp only [beq_iff_eq, decide_eq_true_eq]
  exact toList_nil
theorem pipeOk_eq (t : ByteArray) (r w : Int) : impl_PipeOk.f t r w = some (decide (PipeFine t r w)) := by
  unfold impl_PipeOk.f PipeFine
  simp only [in_eq, Option.bind_some, beq_nil, decide_eq_true_eq]
  by_cases h1 : (t.size : Int) ≤ 8
  · rw [if_pos h1]
    by_cases h2 : 0 ≤ r ∧ r ≤ 99
    · rw [if_pos h2]
      by_cases h3 : 0 ≤ w ∧ w ≤ 99
      · rw [if_pos h3]
        have h1' : t.size ≤ 8 := by omega
        by_cases h4 : r > 0
        · rw [if_pos h4]; simp [h1', h2, h3, h4]
        · rw [if_neg h4]
          have h4' : ¬ 0 < r := h4
          simp [h1', h2, h3, h4']
      · rw [if_neg h3]; simp [h3]
    · rw [if_neg h2]; simp [h2]
  · rw [if_neg h1]
    have h1' : ¬ t.size ≤ 8 := by omega
    simp [h1']
theorem fine_empty : PipeFine ⟨#[]⟩ 0 0 := by unfold PipeFine; exact ⟨by decide, by omega, by omega, Or.inr rfl⟩
theorem empty_of_size {t : ByteArray} (h : t.size = 0) : t = ⟨#[]⟩ := ByteArray.size_eq_zero_iff.1 h
/-! ### PipeTake, of the program and of the reference -/
structure TakeFacts (t : ByteArray) (r w m : Int) (x : ByteArray × Int × Int × ByteArray × Int) : Prop where
  bad : ¬ (PipeFine t r w ∧ r ≠ 0 ∧ 0 ≤ m) → x.2.2.2.2 = 1
  fine : PipeFine t r w ∧ r ≠ 0 ∧ 0 ≤ m → (x.2.1 = r ∧ x.2.2.1 = w) ∧
    ((m = 0 ∨ 0 < t.size) → x.2.2.2.2 = 0 ∧ x.2.2.2.1 = t.extract 0 (mn m t.size).toNat ∧ x.1 = t.extract (mn m t.size).toNat t.size) ∧
    (¬ (m = 0 ∨ 0 < t.size) → x.1 = t ∧ x.2.2.2.1 = ⟨#[]⟩ ∧ x.2.2.2.2 = if w = 0 then 3 else 2)
theorem take_ok (t : ByteArray) (r w m : Int) {k : Nat} (hk : 3 ≤ k) : ∃ x, impl_PipeTake.f k t r w m = some x ∧ spec_PipeTake.f k t r w m = some x ∧ TakeFacts t r w m x := by
  obtain ⟨k, rfl⟩ : ∃ n, k = n + 2 := ⟨k - 2, by omega⟩
  have es : spec_PipeOk.f t r w = impl_PipeOk.f t r w := rfl
  unfold impl_PipeTake.f spec_PipeTake.f
  rw [es, pipeOk_eq]
  simp only [Option.bind_some, decide_eq_true_eq]
  by_cases hf : PipeFine t r w
  · rw [if_pos hf, if_pos hf]
    by_cases hr : r = 0
    · rw [if_pos hr, if_pos hr]
      simp only [impl_PipeTake.j0, if_true]
      exact ⟨_, rfl, rfl, ⟨fun _ => rfl, fun h => absurd hr h.2.1⟩⟩
    · rw [if_neg hr, if_neg hr]
      by_cases hm : m < 0
      · rw [if_pos hm]
        simp only [impl_PipeTake.j0, hm, decide_true, if_true]
        exact ⟨_, rfl, rfl, ⟨fun _ => rfl, fun h => by omega⟩⟩
      · rw [if_neg hm]
        have h0 : (0 : Int) ≤ t.size := by omega
        have hmn : 0 ≤ mn m t.size ∧ mn m t.size ≤ t.size := by unfold mn; split <;> omega
        simp only [impl_PipeTake.j0, hm, decide_false, Bool.false_eq_true, if_false]
        unfold spec_l9Take.f
        by_cases hz : m = 0
        · have e0 : mn m t.size = 0 := by unfold mn; split <;> omega
          rw [if_pos hz, e0, if_neg (by omega)]
          have hb : (m == 0) = true := by simp [hz]
          simp only [impl_PipeTake.j1, hb, if_true, Option.bind_some]
          rw [if_pos (by omega), if_pos h0]
          have e1 : t.extract (0 : Int).toNat t.size = t := ByteArray.extract_zero_size
          have e2 : t.extract 0 (0 : Int).toNat = ⟨#[]⟩ := ByteArray.extract_same
          rw [e1, e2]
          refine ⟨_, rfl, rfl, ⟨fun h => absurd ⟨hf, hr, by omega⟩ h, fun _ => ⟨⟨rfl, rfl⟩, fun _ => ⟨rfl, ?_, ?_⟩, fun h => absurd (Or.inl hz) h⟩⟩⟩
          · rw [e0]; exact e2.symm
          · rw [e0]; exact e1.symm
        · rw [if_neg hz]
          have hb : (m == 0) = false := by simpa using hz
          by_cases ht : t.toList = ([] : List UInt8)
          · have hs := toList_nil.1 ht
            have e0 : mn m t.size = 0 := by unfold mn; split <;> omega
            rw [if_pos ht, e0, if_neg (by omega)]
            simp only [impl_PipeTake.j1, hb, spec_l9Take.j0, Bool.false_eq_true, if_false, if_pos ht, beq_iff_eq]
            by_cases hw : w = 0
            · rw [if_pos hw]; simp only [Option.bind_some]
              exact ⟨_, rfl, rfl, ⟨fun h => absurd ⟨hf, hr, by omega⟩ h, fun _ => ⟨⟨rfl, rfl⟩, fun h => by omega, fun _ => ⟨rfl, rfl, by rw [if_pos hw]⟩⟩⟩⟩
            · rw [if_neg hw]; simp only [Option.bind_some]
              exact ⟨_, rfl, rfl, ⟨fun h => absurd ⟨hf, hr, by omega⟩ h, fun _ => ⟨⟨rfl, rfl⟩, fun h => by omega, fun _ => ⟨rfl, rfl, by rw [if_neg hw]⟩⟩⟩⟩
          · have hs : t.size ≠ 0 := fun h => ht (toList_nil.2 h)
            have e0 : 0 < mn m t.size := by unfold mn; split <;> omega
            rw [if_neg ht, if_pos e0]
            simp only [impl_PipeTake.j1, spec_l9Take.j0, Bool.false_eq_true, if_false, if_true, if_neg ht]
            rw [if_pos hmn.1, if_pos hmn.2]
            simp only [Option.bind_some]
            exact ⟨_, rfl, rfl, ⟨fun h => absurd ⟨hf, hr, by omega⟩ h, fun _ => ⟨⟨rfl, rfl⟩, fun _ => ⟨rfl, rfl, rfl⟩, fun h => absurd (Or.inr (by omega)) h⟩⟩⟩
  · rw [if_neg hf, if_neg hf]
    simp only [impl_PipeTake.j0, if_true]
    exact ⟨_, rfl, rfl, ⟨fun _ => rfl, fun h => absurd h.1 hf⟩⟩
theorem extract_both (t : ByteArray) {n : Nat} (h : n ≤ t.size) : t.extract 0 n ++ t.extract n t.size = t := by
  rw [ByteArray.extract_append_extract, Nat.min_eq_left (by omega), Nat.max_eq_right (by omega)]
  exact ByteArray.extract_zero_size

theorem FnExactPipeTake : BdFnExactPipeTake.Pure := by
  intro t r w m _ _
  refine ⟨3, ?_⟩
  obtain ⟨⟨t', r', w', o, c⟩, h1, h2, _⟩ := take_ok t r w m (k := 3) (by omega)
  unfold laws_FnExactPipeTake.f laws_szPipe.f laws_toPipe.f laws_eqPipe.f
  split <;> simp [h1, h2]

end Go.Proofs.Ytdcblmmfomjhcaa.Pure
