/- The program's PipePut and the reference's answer alike at every pipe and every text. -/
import Derived.Test.YtdcblmmfomjhcaaBdFnExactPipePut
import Derived.WideShapes
import Derived.IntWalk
import Derived.OpenShut
namespace Go.Proofs.Ytdcblmmfomjhcaa.Pure
open Go.RowKit Go.Proofs.Ytdcblmmfomjhcaa.XFnExactPipePut Go.Proofs.YtdcblmmfomjhcaaW.PrintWords Go.Proofs.YtdcblmmfomjhcaaW.PrintLast

/-! ### small facts on numbers, bytes and rounds -/
theorem w64 {n : Int} (h1 : -9223372036854775808 ≤ n) (h2 : n ≤ 9223372036854775807) : wrap64 n = n := by unfold wrap64; omega
theorem w64_range (n : Int) : -9223372036854775808 ≤ wrap64 n ∧ wrap64 n ≤ 9223372036854775807 := by unfold wrap64; omega
theorem xor_ok {x y : Int} (hx : 0 ≤ x) (hx2 : x < 4611686018427387904) (hy : 0 ≤ y) (hy2 : y < 4611686018427387904) : 0 ≤ Go.bits .xor .i64 x y ∧ Go.bits .xor .i64 x y < 4611686018427387904 := by
  have h1 : (BitVec.ofInt 64 x ^^^ BitVec.ofInt 64 y).toNat < 2 ^ 62 := by
    rw [BitVec.toNat_xor]
    apply Nat.xor_lt_two_pow
    · rw [BitVec.toNat_ofInt]; omega
    · rw [BitVec.toNat_ofInt]; omega
  have h2 : Go.bits .xor .i64 x y = ((BitVec.ofInt 64 x ^^^ BitVec.ofInt 64 y).toNat : Int) := by
    show IntKind.wrap .i64 ((BitVec.ofInt 64 x ^^^ BitVec.ofInt 64 y).toNat : Int) = _
    generalize (BitVec.ofInt 64 x ^^^ BitVec.ofInt 64 y).toNat = m at h1
    exact IntWalk.i64_in _ (by omega)
  rw [h2]; omega
theorem tmod_ok {x n : Int} (hx : 0 ≤ x) (hn : 1 ≤ n) : 0 ≤ Int.tmod x n ∧ Int.tmod x n < n := by
  rw [Int.tmod_eq_emod_of_nonneg hx]
  exact ⟨Int.emod_nonneg _ (by omega), Int.emod_lt_of_pos _ (by omega)⟩
theorem tdiv_ok {x n : Int} (hx : 0 ≤ x) (hn : 1 ≤ n) : 0 ≤ Int.tdiv x n ∧ Int.tdiv x n ≤ x := by
  rw [Int.tdiv_eq_ediv_of_nonneg hx]
  exact ⟨Int.ediv_nonneg hx (by omega), Int.ediv_le_self _ hx⟩
theorem rd_mem {xs : List Int} {i : Int} (h0 : 0 ≤ i) (h1 : i < (xs.length : Int)) : rd xs i ∈ xs := by
  have hl : i.toNat < xs.length := by omega
  unfold rd
  rw [List.getD_eq_getElem?_getD, List.getElem?_eq_getElem hl]
  exact List.getElem_mem hl
def Bytes (s : List Int) : Prop := ∀ x ∈ s, 0 ≤ x ∧ x ≤ 255
theorem bytes_of_wf {s : List Int} (h : ∀ x ∈ s, (Lit.int .u8 x).wf = true) : Bytes s := fun x hx => Go.bounds_u8 (h x hx)
theorem bytes_rd {s : List Int} (h : Bytes s) {i : Int} (h0 : 0 ≤ i) (h1 : i < (s.length : Int)) : 0 ≤ rd s i ∧ rd s i ≤ 255 := h _ (rd_mem h0 h1)
theorem toList_inj {a b : ByteArray} : a.toList = b.toList ↔ a = b := by
  rw [ByteArray.toList_eq, ByteArray.toList_eq]
  constructor
  · intro h; exact Go.WideShapes.bytes_inj h
  · rintro rfl; rfl
theorem toList_nil {a : ByteArray} : a.toList = ([] : List UInt8) ↔ a.size = 0 := by
  rw [ByteArray.toList_eq, List.eq_nil_iff_length_eq_zero, data_length]
/-! ### PipeOk -/
theorem in_eq (a b c : Int) : impl_in.f a b c = some (decide (b ≤ a ∧ a ≤ c)) := by
  unfold impl_in.f
  by_cases h : a ≥ b <;> simp [h]
def PipeFine (t : ByteArray) (r w : Int) : Prop := t.size ≤ 8 ∧ (0 ≤ r ∧ r ≤ 99) ∧ (0 ≤ w ∧ w ≤ 99) ∧ (0 < r ∨ t.size = 0)
instance (t : ByteArray) (r w : Int) : Decidable (PipeFine t r w) := by unfold PipeFine; infer_instance
theorem beq_nil (t : ByteArray) : (t.toList == ([] : List UInt8)) = decide (t.size = 0) := by
  rw [Bool.eq_iff_iff]
  simp only [beq_iff_eq, decide_eq_true_eq]
  exact toList_nil
theorem pipeOk_eq (t : ByteArray) (r w : Int) : impl_PipeOk.f t r w = some (decide (PipeFine t r w)) := by
  unfold impl_PipeOk.f PipeFine
  simp only [in_eq, Option.bind_some, beq_nil, decide_eq_true_eq]
  by_cases h1 : (t.size : Int) ≤ 8
  · rw [if_pos h1]
    by_cases h2 : 0 ≤ r ∧ r ≤ 99
    · rw [if_pos h2]
      by_cases h3 : 0 ≤ w ∧ w ≤ 99
      · rw [if_pos h3]
        have h1' : t.size ≤ 8 := by omega
        by_cases h4 : r > 0
        · rw [if_pos h4]; simp [h1', h2, h3, h4]
        · rw [if_neg h4]
          have h4' : ¬ 0 < r := h4
          simp [h1', h2, h3, h4']
      · rw [if_neg h3]; simp [h3]
    · rw [if_neg h2]; simp [h2]
  · rw [if_neg h1]
    have h1' : ¬ t.size ≤ 8 := by omega
    simp [h1']
theorem fine_empty : PipeFine ⟨#[]⟩ 0 0 := by unfold PipeFine; exact ⟨by decide, by omega, by omega, Or.inr rfl⟩
theorem empty_of_size {t : ByteArray} (h : t.size = 0) : t = ⟨#[]⟩ := ByteArray.size_eq_zero_iff.1 h
/-! ### PipePut, of the program and of the reference -/
structure PutFacts (t : ByteArray) (r w : Int) (a : ByteArray) (x : ByteArray × Int × Int × Int × Int) : Prop where
  bad : ¬ (PipeFine t r w ∧ w ≠ 0) → x = (⟨#[]⟩, 0, 0, 0, 1)
  broken : PipeFine t r w ∧ w ≠ 0 → r = 0 → x = (t, r, w, 0, 4)
  nothing : PipeFine t r w ∧ w ≠ 0 → r ≠ 0 → a.size = 0 → x = (t, r, w, 0, 0)
  wait : PipeFine t r w ∧ w ≠ 0 → r ≠ 0 → a.size ≠ 0 → (t.size = 8 ∨ 8 < a.size + t.size ∧ a.size ≤ 4) → x = (t, r, w, 0, 2)
  went : PipeFine t r w ∧ w ≠ 0 → r ≠ 0 → a.size ≠ 0 → ¬ (t.size = 8 ∨ 8 < a.size + t.size ∧ a.size ≤ 4) → ∃ n : Nat, n ≤ a.size ∧ n + t.size ≤ 8 ∧ (n = a.size ∨ 4 < a.size) ∧ x = (t ++ a.extract 0 n, r, w, (n : Int), 0)
theorem put_body (t : ByteArray) (r w : Int) (a : ByteArray) (ha : a.size ≤ 140737488351232) (hf : PipeFine t r w) (hw : w ≠ 0) (x : Option (ByteArray × Int × Int × Int × Int))
    (hx : x = (if r = 0 then (some (t, r, w, 0, 4)) else (if a.toList = ([] : List UInt8) then (some (t, r, w, 0, 0)) else (if (wrap64 (8 - (t.size : Int))) = 0 then (some (t, r, w, 0, 2)) else (if (a.size : Int) > (wrap64 (8 - (t.size : Int))) then (if (a.size : Int) ≤ 4 then (some (t, r, w, 0, 2)) else (if 0 ≤ (mn (wrap64 (8 - (t.size : Int))) (a.size : Int)) then (if (mn (wrap64 (8 - (t.size : Int))) (a.size : Int)) ≤ (a.size : Int) then (if t.size + (a.extract 0 ((mn (wrap64 (8 - (t.size : Int))) (a.size : Int)) : Int).toNat).size ≤ 9223372036854775807 then (some (t ++ (a.extract 0 ((mn (wrap64 (8 - (t.size : Int))) (a.size : Int)) : Int).toNat), r, w, mn (wrap64 (8 - (t.size : Int))) (a.size : Int), 0)) else (none)) else (none)) else (none))) else (if 0 ≤ (mn (wrap64 (8 - (t.size : Int))) (a.size : Int)) then (if (mn (wrap64 (8 - (t.size : Int))) (a.size : Int)) ≤ (a.size : Int) then (if t.size + (a.extract 0 ((mn (wrap64 (8 - (t.size : Int))) (a.size : Int)) : Int).toNat).size ≤ 9223372036854775807 then (some (t ++ (a.extract 0 ((mn (wrap64 (8 - (t.size : Int))) (a.size : Int)) : Int).toNat), r, w, mn (wrap64 (8 - (t.size : Int))) (a.size : Int), 0)) else (none)) else (none)) else (none))))))) :
    ∃ y, x = some y ∧ PutFacts t r w a y := by
  have hs := hf.1
  have e1 : wrap64 (8 - (t.size : Int)) = 8 - (t.size : Int) := w64 (by omega) (by omega)
  rw [e1] at hx
  have hn : ∃ n : Nat, mn (8 - (t.size : Int)) (a.size : Int) = (n : Int) ∧ n ≤ a.size ∧ n + t.size ≤ 8 ∧ (n = a.size ∨ n + t.size = 8 ∧ n < a.size) := by
    unfold mn
    split
    · exact ⟨a.size, rfl, by omega, by omega, by omega⟩
    · exact ⟨8 - t.size, by omega, by omega, by omega, by omega⟩
  obtain ⟨n, en, n1, n2, n3⟩ := hn
  rw [en] at hx
  by_cases hr : r = 0
  · rw [if_pos hr] at hx
    exact ⟨_, hx, ⟨fun h => absurd ⟨hf, hw⟩ h, fun _ _ => rfl, fun _ h => absurd hr h, fun _ h => absurd hr h, fun _ h => absurd hr h⟩⟩
  · rw [if_neg hr] at hx
    by_cases ht : a.toList = ([] : List UInt8)
    · have h0 := toList_nil.1 ht
      rw [if_pos ht] at hx
      exact ⟨_, hx, ⟨fun h => absurd ⟨hf, hw⟩ h, fun _ h => absurd h hr, fun _ _ _ => rfl, fun _ _ h => absurd h0 h, fun _ _ h => absurd h0 h⟩⟩
    · have h0 : a.size ≠ 0 := fun h => ht (toList_nil.2 h)
      rw [if_neg ht] at hx
      have hsz : t.size + (a.extract 0 n).size ≤ 9223372036854775807 := by rw [ByteArray.size_extract]; omega
      by_cases h8 : (8 - (t.size : Int)) = 0
      · rw [if_pos h8] at hx
        exact ⟨_, hx, ⟨fun h => absurd ⟨hf, hw⟩ h, fun _ h => absurd h hr, fun _ _ h => absurd h h0, fun _ _ _ _ => rfl, fun _ _ _ h => absurd (Or.inl (by omega)) h⟩⟩
      · rw [if_neg h8] at hx
        by_cases hg : (a.size : Int) > 8 - (t.size : Int)
        · rw [if_pos hg] at hx
          by_cases h4 : (a.size : Int) ≤ 4
          · rw [if_pos h4] at hx
            exact ⟨_, hx, ⟨fun h => absurd ⟨hf, hw⟩ h, fun _ h => absurd h hr, fun _ _ h => absurd h h0, fun _ _ _ _ => rfl, fun _ _ _ h => absurd (Or.inr ⟨by omega, by omega⟩) h⟩⟩
          · rw [if_neg h4, if_pos (by omega), if_pos (by omega), if_pos (by simpa using hsz)] at hx
            exact ⟨_, hx, ⟨fun h => absurd ⟨hf, hw⟩ h, fun _ h => absurd h hr, fun _ _ h => absurd h h0, fun _ _ _ h => by omega, fun _ _ _ _ => ⟨n, n1, n2, by omega, by simp⟩⟩⟩
        · rw [if_neg hg, if_pos (by omega), if_pos (by omega), if_pos (by simpa using hsz)] at hx
          exact ⟨_, hx, ⟨fun h => absurd ⟨hf, hw⟩ h, fun _ h => absurd h hr, fun _ _ h => absurd h h0, fun _ _ _ h => by omega, fun _ _ _ _ => ⟨n, n1, n2, by omega, by simp⟩⟩⟩
theorem put_ok (t : ByteArray) (r w : Int) (a : ByteArray) (ha : a.size ≤ 140737488351232) {k : Nat} (hk : 1 ≤ k) : ∃ x, impl_PipePut.f k t r w a = some x ∧ PutFacts t r w a x := by
  obtain ⟨k, rfl⟩ : ∃ n, k = n + 1 := ⟨k - 1, by omega⟩
  unfold impl_PipePut.f
  rw [pipeOk_eq]
  simp only [Option.bind_some, decide_eq_true_eq]
  by_cases hf : PipeFine t r w
  · rw [if_pos hf]
    by_cases hw : w = 0
    · have : (w == 0) = true := by simp [hw]
      rw [this]; simp only [impl_PipePut.j0, if_true]
      exact ⟨_, rfl, ⟨fun _ => rfl, fun h => absurd hw h.2, fun h => absurd hw h.2, fun h => absurd hw h.2, fun h => absurd hw h.2⟩⟩
    · have : (w == 0) = false := by simpa using hw
      rw [this]; simp only [impl_PipePut.j0, Bool.false_eq_true, if_false]
      exact put_body t r w a ha hf hw _ rfl
  · rw [if_neg hf]; simp only [impl_PipePut.j0, if_true]
    exact ⟨_, rfl, ⟨fun _ => rfl, fun h => absurd h.1 hf, fun h => absurd h.1 hf, fun h => absurd h.1 hf, fun h => absurd h.1 hf⟩⟩
theorem put_spec (t : ByteArray) (r w : Int) (a : ByteArray) {k : Nat} (hk : 1 ≤ k) : spec_PipePut.f t r w a = impl_PipePut.f k t r w a := by
  obtain ⟨k, rfl⟩ : ∃ n, k = n + 1 := ⟨k - 1, by omega⟩
  have es : spec_PipeOk.f t r w = impl_PipeOk.f t r w := rfl
  unfold impl_PipePut.f spec_PipePut.f
  rw [es, pipeOk_eq]
  simp only [Option.bind_some, decide_eq_true_eq]
  by_cases hf : PipeFine t r w
  · rw [if_pos hf, if_pos hf]
    by_cases hw : w = 0
    · have : (w == 0) = true := by simp [hw]
      rw [if_pos hw, this]; simp only [impl_PipePut.j0, if_true]
    · have : (w == 0) = false := by simpa using hw
      rw [if_neg hw, this]; simp only [impl_PipePut.j0, Bool.false_eq_true, if_false]
      unfold spec_l9Put.f
      generalize (if r = 0 then _ else _ : Option (ByteArray × Int × Int × Int × Int)) = z
      cases z <;> rfl
  · rw [if_neg hf, if_neg hf]; simp only [impl_PipePut.j0, if_true]

theorem FnExactPipePut : BdFnExactPipePut.Pure := by
  intro t r w a _ ha
  refine ⟨1, ?_⟩
  obtain ⟨⟨t', r', w', o, c⟩, h1, _⟩ := put_ok t r w a ha (k := 1) (by omega)
  have h2 := put_spec t r w a (k := 1) (by omega)
  rw [h1] at h2
  unfold laws_FnExactPipePut.f laws_szPipe.f laws_toPipe.f laws_eqPipe.f
  by_cases hl : (a.size : Int) > 1048576
  · rw [if_pos hl]
  · rw [if_neg hl]
    by_cases hs : wrap64 (1048576 - (t.size : Int)) < 0
    · rw [if_pos hs]; simp
    · rw [if_neg hs]
      simp only [Option.bind_some]
      rw [if_neg hs, h2]; simp only [Option.bind_some]
      rw [h1]; simp

end Go.Proofs.Ytdcblmmfomjhcaa.Pure
