/- Small texts are never mixed: at every two codes. -/
import Derived.Test.YtdcblmmfomjhcaaBdFnPipeWhole
import Derived.WideShapes
import Derived.IntWalk
import Derived.OpenShut
namespace Go.Proofs.Ytdcblmmfomjhcaa.Pure
open Go.RowKit Go.Proofs.Ytdcblmmfomjhcaa.XFnPipeWhole Go.Proofs.YtdcblmmfomjhcaaW.PrintWords Go.Proofs.YtdcblmmfomjhcaaW.PrintLast

/-! ### small facts on numbers, bytes and rounds -/
theorem w64 {n : Int} (h1 : -9223372036854775808 ≤ n) (h2 : n ≤ 9223372036854775807) : wrap64 n = n := by unfold wrap64; omega
theorem w64_range (n : Int) : -9223372036854775808 ≤ wrap64 n ∧ wrap64 n ≤ 9223372036854775807 := by unfold wrap64; omega
theorem xor_ok {x y : Int} (hx : 0 ≤ x) (hx2 : x < 4611686018427387904) (hy : 0 ≤ y) (hy2 : y < 4611686018427387904) : 0 ≤ Go.bits .xor .i64 x y ∧ Go.bits .xor .i64 x y < 4611686018427387904 := by
  have h1 : (BitVec.ofInt 64 x ^^^ BitVec.ofInt 64 y).toNat < 2 ^ 62 := by
    rw [BitVec.toNat_xor]
    apply Nat.xor_lt_two_pow
    · rw [BitVec.toNat_ofInt]; omega
    · rw [BitVec.toNat_ofInt]; omega
  have h2 : Go.bits .xor .i64 x y = ((BitVec.ofInt 64 x ^^^ BitVec.ofInt 64 y).toNat : Int) := by
    show IntKind.wrap .i64 ((BitVec.ofInt 64 x ^^^ BitVec.ofInt 64 y).toNat : Int) = _
    generalize (BitVec.ofInt 64 x ^^^ BitVec.ofInt 64 y).toNat = m at h1
    exact IntWalk.i64_in _ (by omega)
  rw [h2]; omega
theorem tmod_ok {x n : Int} (hx : 0 ≤ x) (hn : 1 ≤ n) : 0 ≤ Int.tmod x n ∧ Int.tmod x n < n := by
  rw [Int.tmod_eq_emod_of_nonneg hx]
  exact ⟨Int.emod_nonneg _ (by omega), Int.emod_lt_of_pos _ (by omega)⟩
theorem tdiv_ok {x n : Int} (hx : 0 ≤ x) (hn : 1 ≤ n) : 0 ≤ Int.tdiv x n ∧ Int.tdiv x n ≤ x := by
  rw [Int.tdiv_eq_ediv_of_nonneg hx]
  exact ⟨Int.ediv_nonneg hx (by omega), Int.ediv_le_self _ hx⟩
theorem rd_mem {xs : List Int} {i : Int} (h0 : 0 ≤ i) (h1 : i < (xs.length : Int)) : rd xs i ∈ xs := by
  have hl : i.toNat < xs.length := by omega
  unfold rd
  rw [List.getD_eq_getElem?_getD, List.getElem?_eq_getElem hl]
  exact List.getElem_mem hl
def Bytes (s : List Int) : Prop := ∀ x ∈ s, 0 ≤ x ∧ x ≤ 255
theorem bytes_of_wf {s : List Int} (h : ∀ x ∈ s, (Lit.int .u8 x).wf = true) : Bytes s := fun x hx => Go.bounds_u8 (h x hx)
theorem bytes_rd {s : List Int} (h : Bytes s) {i : Int} (h0 : 0 ≤ i) (h1 : i < (s.length : Int)) : 0 ≤ rd s i ∧ rd s i ≤ 255 := h _ (rd_mem h0 h1)
theorem toList_inj {a b : ByteArray} : a.toList = b.toList ↔ a = b := by
  rw [ByteArray.toList_eq, ByteArray.toList_eq]
  constructor
  · intro h; exact Go.WideShapes.bytes_inj h
  · rintro rfl; rfl
theorem toList_nil {a : ByteArray} : a.toList = ([] : List UInt8) ↔ a.size = 0 := by
  rw [ByteArray.toList_eq, List.eq_nil_iff_length_eq_zero, data_length]
/-! ### the reader of a code: l6Open, pick -/
theorem open_ok {l0 : List Int} (hb : Bytes l0) : ∃ s, spec_l6Open.f l0 = some (s, 0) ∧ Bytes s ∧ s.length ≤ 2000 := by
  unfold spec_l6Open.f
  by_cases h : (l0.length : Int) > 2000
  · rw [if_pos h, if_pos (by omega)]
    exact ⟨_, rfl, fun x hx => hb x (List.mem_of_mem_take hx), by rw [List.length_take]; omega⟩
  · rw [if_neg h]
    exact ⟨_, rfl, hb, by omega⟩
theorem pick_ok {s : List Int} (hb : Bytes s) (hs : s.length ≤ 2000) {p : Int} (hp0 : 0 ≤ p) (hp1 : p ≤ 1000000000) (n : Int) {k : Nat} (hk : 1 ≤ k) :
    ∃ v, spec_l6Rd_pick.f k s p n = some (v, p + 1) ∧ 0 ≤ v ∧ (1 ≤ n → v < n) ∧ (n < 1 → v = 0) := by
  obtain ⟨k, rfl⟩ : ∃ m, k = m + 1 := ⟨k - 1, by omega⟩
  have e1 : wrap64 (p + 1) = p + 1 := w64 (by omega) (by omega)
  have e2 : wrap64 (p + 1 - 1) = p := by rw [show p + 1 - 1 = p by omega]; exact w64 (by omega) (by omega)
  unfold spec_l6Rd_pick.f
  by_cases hn : n < 1
  · rw [if_pos hn]; simp only [spec_l6Rd_pick.j0, if_true, e1]
    exact ⟨0, rfl, by omega, by omega, fun _ => rfl⟩
  · rw [if_neg hn]; simp only [spec_l6Rd_pick.j0, e1, e2]
    by_cases h0 : (s.length : Int) = 0
    · have : ((s.length : Int) == 0) = true := by simp [h0]
      rw [this, if_pos rfl]
      exact ⟨0, rfl, by omega, by omega, fun _ => rfl⟩
    · have : ((s.length : Int) == 0) = false := by simpa using h0
      rw [this, if_neg (by decide)]
      by_cases hl : p < (s.length : Int)
      · rw [if_pos hl, if_pos hp0, if_neg (by omega)]
        have hr := bytes_rd hb hp0 hl
        rw [w64 (n := rd s p) (by omega) (by omega)]
        have ht := tmod_ok hr.1 (show 1 ≤ n by omega)
        exact ⟨_, rfl, ht.1, fun _ => ht.2, by omega⟩
      · rw [if_neg hl, if_neg h0]
        have a1 := tmod_ok (x := p) (n := (s.length : Int)) hp0 (by omega)
        rw [if_pos a1.1, if_pos a1.2]
        have e3 : wrap64 (p * 7) = p * 7 := w64 (by omega) (by omega)
        have e4 : wrap64 (p * 7 + 3) = p * 7 + 3 := w64 (by omega) (by omega)
        simp only [e3, e4]
        have a2 := tmod_ok (x := p * 7 + 3) (n := (s.length : Int)) (by omega) (by omega)
        rw [if_pos a2.1, if_pos a2.2, if_neg (by omega)]
        have b1 := bytes_rd hb a1.1 a1.2
        have b2 := bytes_rd hb a2.1 a2.2
        have a3 := tdiv_ok (x := p) (n := (s.length : Int)) hp0 (by omega)
        generalize rd s (p.tmod (s.length : Int)) = x1 at b1 ⊢
        generalize rd s ((p * 7 + 3).tmod (s.length : Int)) = x2 at b2 ⊢
        generalize p.tdiv (s.length : Int) = x3 at a3 ⊢
        have c1 : wrap64 x1 = x1 := w64 (by omega) (by omega)
        have c2 : wrap64 x2 = x2 := w64 (by omega) (by omega)
        have c3 : wrap64 x3 = x3 := w64 (by omega) (by omega)
        have c4 : wrap64 (x1 * 131) = x1 * 131 := w64 (by omega) (by omega)
        have c5 : wrap64 (x2 * 1117) = x2 * 1117 := w64 (by omega) (by omega)
        have c6 : wrap64 (x1 * 131 + x2 * 1117) = x1 * 131 + x2 * 1117 := w64 (by omega) (by omega)
        have c7 : wrap64 (p * 29) = p * 29 := w64 (by omega) (by omega)
        have c8 : wrap64 (x1 * 131 + x2 * 1117 + p * 29) = x1 * 131 + x2 * 1117 + p * 29 := w64 (by omega) (by omega)
        have c9 : wrap64 (x3 * 53) = x3 * 53 := w64 (by omega) (by omega)
        have c10 : wrap64 (x1 * 131 + x2 * 1117 + p * 29 + x3 * 53) = x1 * 131 + x2 * 1117 + p * 29 + x3 * 53 := w64 (by omega) (by omega)
        simp only [c1, c2, c3, c4, c5, c6, c7, c8, c9, c10]
        have a4 := tdiv_ok (x := x1 * 131 + x2 * 1117 + p * 29 + x3 * 53) (n := 64) (by omega) (by omega)
        have c11 : wrap64 ((x1 * 131 + x2 * 1117 + p * 29 + x3 * 53).tdiv 64) = (x1 * 131 + x2 * 1117 + p * 29 + x3 * 53).tdiv 64 := w64 (by omega) (by omega)
        rw [c11]
        have a5 := xor_ok (x := x1 * 131 + x2 * 1117 + p * 29 + x3 * 53) (y := (x1 * 131 + x2 * 1117 + p * 29 + x3 * 53).tdiv 64) (by omega) (by omega) a4.1 (by omega)
        have a6 := tmod_ok a5.1 (show 1 ≤ n by omega)
        exact ⟨_, rfl, a6.1, fun _ => a6.2, by omega⟩
/-! ### PipeOk -/
theorem in_eq (a b c : Int) : impl_in.f a b c = some (decide (b ≤ a ∧ a ≤ c)) := by
  unfold impl_in.f
  by_cases h : a ≥ b <;> simp [h]
def PipeFine (t : ByteArray) (r w : Int) : Prop := t.size ≤ 8 ∧ (0 ≤ r ∧ r ≤ 99) ∧ (0 ≤ w ∧ w ≤ 99) ∧ (0 < r ∨ t.size = 0)
instance (t : ByteArray) (r w : Int) : Decidable (PipeFine t r w) := by unfold PipeFine; infer_instance
theorem beq_nil (t : ByteArray) : (t.toList == ([] : List UInt8)) = decide (t.size = 0) := by
  rw [Bool.eq_iff_iff]
  simp only [beq_iff_eq, decide_eq_true_eq]
  exact toList_nil
theorem pipeOk_eq (t : ByteArray) (r w : Int) : impl_PipeOk.f t r w = some (decide (PipeFine t r w)) := by
  unfold impl_PipeOk.f PipeFine
  simp only [in_eq, Option.bind_some, beq_nil, decide_eq_true_eq]
  by_cases h1 : (t.size : Int) ≤ 8
  · rw [if_pos h1]
    by_cases h2 : 0 ≤ r ∧ r ≤ 99
    · rw [if_pos h2]
      by_cases h3 : 0 ≤ w ∧ w ≤ 99
      · rw [if_pos h3]
        have h1' : t.size ≤ 8 := by omega
        by_cases h4 : r > 0
        · rw [if_pos h4]; simp [h1', h2, h3, h4]
        · rw [if_neg h4]
          have h4' : ¬ 0 < r := h4
          simp [h1', h2, h3, h4']
      · rw [if_neg h3]; simp [h3]
    · rw [if_neg h2]; simp [h2]
  · rw [if_neg h1]
    have h1' : ¬ t.size ≤ 8 := by omega
    simp [h1']
theorem fine_empty : PipeFine ⟨#[]⟩ 0 0 := by unfold PipeFine; exact ⟨by decide, by omega, by omega, Or.inr rfl⟩
theorem empty_of_size {t : ByteArray} (h : t.size = 0) : t = ⟨#[]⟩ := ByteArray.size_eq_zero_iff.1 h
/-! ### PipeTake, of the program and of the reference -/
structure TakeFacts (t : ByteArray) (r w m : Int) (x : ByteArray × Int × Int × ByteArray × Int) : Prop where
  bad : ¬ (PipeFine t r w ∧ r ≠ 0 ∧ 0 ≤ m) → x.2.2.2.2 = 1
  fine : PipeFine t r w ∧ r ≠ 0 ∧ 0 ≤ m → (x.2.1 = r ∧ x.2.2.1 = w) ∧
    ((m = 0 ∨ 0 < t.size) → x.2.2.2.2 = 0 ∧ x.2.2.2.1 = t.extract 0 (mn m t.size).toNat ∧ x.1 = t.extract (mn m t.size).toNat t.size) ∧
    (¬ (m = 0 ∨ 0 < t.size) → x.1 = t ∧ x.2.2.2.1 = ⟨#[]⟩ ∧ x.2.2.2.2 = if w = 0 then 3 else 2)
theorem take_ok (t : ByteArray) (r w m : Int) {k : Nat} (hk : 3 ≤ k) : ∃ x, impl_PipeTake.f k t r w m = some x ∧ TakeFacts t r w m x := by
  obtain ⟨k, rfl⟩ : ∃ n, k = n + 2 := ⟨k - 2, by omega⟩
  unfold impl_PipeTake.f
  rw [pipeOk_eq]
  simp only [Option.bind_some, decide_eq_true_eq]
  by_cases hf : PipeFine t r w
  · rw [if_pos hf]
    by_cases hr : r = 0
    · rw [if_pos hr]
      simp only [impl_PipeTake.j0, if_true]
      exact ⟨_, rfl, ⟨fun _ => rfl, fun h => absurd hr h.2.1⟩⟩
    · rw [if_neg hr]
      by_cases hm : m < 0
      · simp only [impl_PipeTake.j0, hm, decide_true, if_true]
        exact ⟨_, rfl, ⟨fun _ => rfl, fun h => by omega⟩⟩
      · have h0 : (0 : Int) ≤ t.size := by omega
        have hmn : 0 ≤ mn m t.size ∧ mn m t.size ≤ t.size := by unfold mn; split <;> omega
        simp only [impl_PipeTake.j0, hm, decide_false, Bool.false_eq_true, if_false]
        by_cases hz : m = 0
        · have e0 : mn m t.size = 0 := by unfold mn; split <;> omega
          rw [e0, if_neg (by omega)]
          have hb : (m == 0) = true := by simp [hz]
          simp only [impl_PipeTake.j1, hb, if_true]
          rw [if_pos (by omega), if_pos h0]
          have e1 : t.extract (0 : Int).toNat t.size = t := ByteArray.extract_zero_size
          have e2 : t.extract 0 (0 : Int).toNat = ⟨#[]⟩ := ByteArray.extract_same
          rw [e1, e2]
          refine ⟨_, rfl, ⟨fun h => absurd ⟨hf, hr, by omega⟩ h, fun _ => ⟨⟨rfl, rfl⟩, fun _ => ⟨rfl, ?_, ?_⟩, fun h => absurd (Or.inl hz) h⟩⟩⟩
          · rw [e0]; exact e2.symm
          · rw [e0]; exact e1.symm
        · have hb : (m == 0) = false := by simpa using hz
          by_cases ht : t.toList = ([] : List UInt8)
          · have hs := toList_nil.1 ht
            have e0 : mn m t.size = 0 := by unfold mn; split <;> omega
            rw [e0, if_neg (by omega)]
            simp only [impl_PipeTake.j1, hb, Bool.false_eq_true, if_false]
            by_cases hw : w = 0
            · rw [if_pos hw]
              exact ⟨_, rfl, ⟨fun h => absurd ⟨hf, hr, by omega⟩ h, fun _ => ⟨⟨rfl, rfl⟩, fun h => by omega, fun _ => ⟨rfl, rfl, by rw [if_pos hw]⟩⟩⟩⟩
            · rw [if_neg hw]
              exact ⟨_, rfl, ⟨fun h => absurd ⟨hf, hr, by omega⟩ h, fun _ => ⟨⟨rfl, rfl⟩, fun h => by omega, fun _ => ⟨rfl, rfl, by rw [if_neg hw]⟩⟩⟩⟩
          · have hs : t.size ≠ 0 := fun h => ht (toList_nil.2 h)
            have e0 : 0 < mn m t.size := by unfold mn; split <;> omega
            rw [if_pos e0]
            simp only [impl_PipeTake.j1, if_true]
            rw [if_pos hmn.1, if_pos hmn.2]
            exact ⟨_, rfl, ⟨fun h => absurd ⟨hf, hr, by omega⟩ h, fun _ => ⟨⟨rfl, rfl⟩, fun _ => ⟨rfl, rfl, rfl⟩, fun h => absurd (Or.inr (by omega)) h⟩⟩⟩
  · rw [if_neg hf]
    simp only [impl_PipeTake.j0, if_true]
    exact ⟨_, rfl, ⟨fun _ => rfl, fun h => absurd h.1 hf⟩⟩
theorem extract_both (t : ByteArray) {n : Nat} (h : n ≤ t.size) : t.extract 0 n ++ t.extract n t.size = t := by
  rw [ByteArray.extract_append_extract, Nat.min_eq_left (by omega), Nat.max_eq_right (by omega)]
  exact ByteArray.extract_zero_size
/-! ### PipePut, of the program and of the reference -/
structure PutFacts (t : ByteArray) (r w : Int) (a : ByteArray) (x : ByteArray × Int × Int × Int × Int) : Prop where
  bad : ¬ (PipeFine t r w ∧ w ≠ 0) → x = (⟨#[]⟩, 0, 0, 0, 1)
  broken : PipeFine t r w ∧ w ≠ 0 → r = 0 → x = (t, r, w, 0, 4)
  nothing : PipeFine t r w ∧ w ≠ 0 → r ≠ 0 → a.size = 0 → x = (t, r, w, 0, 0)
  wait : PipeFine t r w ∧ w ≠ 0 → r ≠ 0 → a.size ≠ 0 → (t.size = 8 ∨ 8 < a.size + t.size ∧ a.size ≤ 4) → x = (t, r, w, 0, 2)
  went : PipeFine t r w ∧ w ≠ 0 → r ≠ 0 → a.size ≠ 0 → ¬ (t.size = 8 ∨ 8 < a.size + t.size ∧ a.size ≤ 4) → ∃ n : Nat, n ≤ a.size ∧ n + t.size ≤ 8 ∧ (n = a.size ∨ 4 < a.size) ∧ x = (t ++ a.extract 0 n, r, w, (n : Int), 0)
theorem put_body (t : ByteArray) (r w : Int) (a : ByteArray) (ha : a.size ≤ 140737488351232) (hf : PipeFine t r w) (hw : w ≠ 0) (x : Option (ByteArray × Int × Int × Int × Int))
    (hx : x = (if r = 0 then (some (t, r, w, 0, 4)) else (if a.toList = ([] : List UInt8) then (some (t, r, w, 0, 0)) else (if (wrap64 (8 - (t.size : Int))) = 0 then (some (t, r, w, 0, 2)) else (if (a.size : Int) > (wrap64 (8 - (t.size : Int))) then (if (a.size : Int) ≤ 4 then (some (t, r, w, 0, 2)) else (if 0 ≤ (mn (wrap64 (8 - (t.size : Int))) (a.size : Int)) then (if (mn (wrap64 (8 - (t.size : Int))) (a.size : Int)) ≤ (a.size : Int) then (if t.size + (a.extract 0 ((mn (wrap64 (8 - (t.size : Int))) (a.size : Int)) : Int).toNat).size ≤ 9223372036854775807 then (some (t ++ (a.extract 0 ((mn (wrap64 (8 - (t.size : Int))) (a.size : Int)) : Int).toNat), r, w, mn (wrap64 (8 - (t.size : Int))) (a.size : Int), 0)) else (none)) else (none)) else (none))) else (if 0 ≤ (mn (wrap64 (8 - (t.size : Int))) (a.size : Int)) then (if (mn (wrap64 (8 - (t.size : Int))) (a.size : Int)) ≤ (a.size : Int) then (if t.size + (a.extract 0 ((mn (wrap64 (8 - (t.size : Int))) (a.size : Int)) : Int).toNat).size ≤ 9223372036854775807 then (some (t ++ (a.extract 0 ((mn (wrap64 (8 - (t.size : Int))) (a.size : Int)) : Int).toNat), r, w, mn (wrap64 (8 - (t.size : Int))) (a.size : Int), 0)) else (none)) else (none)) else (none))))))) :
    ∃ y, x = some y ∧ PutFacts t r w a y := by
  have hs := hf.1
  have e1 : wrap64 (8 - (t.size : Int)) = 8 - (t.size : Int) := w64 (by omega) (by omega)
  rw [e1] at hx
  have hn : ∃ n : Nat, mn (8 - (t.size : Int)) (a.size : Int) = (n : Int) ∧ n ≤ a.size ∧ n + t.size ≤ 8 ∧ (n = a.size ∨ n + t.size = 8 ∧ n < a.size) := by
    unfold mn
    split
    · exact ⟨a.size, rfl, by omega, by omega, by omega⟩
    · exact ⟨8 - t.size, by omega, by omega, by omega, by omega⟩
  obtain ⟨n, en, n1, n2, n3⟩ := hn
  rw [en] at hx
  by_cases hr : r = 0
  · rw [if_pos hr] at hx
    exact ⟨_, hx, ⟨fun h => absurd ⟨hf, hw⟩ h, fun _ _ => rfl, fun _ h => absurd hr h, fun _ h => absurd hr h, fun _ h => absurd hr h⟩⟩
  · rw [if_neg hr] at hx
    by_cases ht : a.toList = ([] : List UInt8)
    · have h0 := toList_nil.1 ht
      rw [if_pos ht] at hx
      exact ⟨_, hx, ⟨fun h => absurd ⟨hf, hw⟩ h, fun _ h => absurd h hr, fun _ _ _ => rfl, fun _ _ h => absurd h0 h, fun _ _ h => absurd h0 h⟩⟩
    · have h0 : a.size ≠ 0 := fun h => ht (toList_nil.2 h)
      rw [if_neg ht] at hx
      have hsz : t.size + (a.extract 0 n).size ≤ 9223372036854775807 := by rw [ByteArray.size_extract]; omega
      by_cases h8 : (8 - (t.size : Int)) = 0
      · rw [if_pos h8] at hx
        exact ⟨_, hx, ⟨fun h => absurd ⟨hf, hw⟩ h, fun _ h => absurd h hr, fun _ _ h => absurd h h0, fun _ _ _ _ => rfl, fun _ _ _ h => absurd (Or.inl (by omega)) h⟩⟩
      · rw [if_neg h8] at hx
        by_cases hg : (a.size : Int) > 8 - (t.size : Int)
        · rw [if_pos hg] at hx
          by_cases h4 : (a.size : Int) ≤ 4
          · rw [if_pos h4] at hx
            exact ⟨_, hx, ⟨fun h => absurd ⟨hf, hw⟩ h, fun _ h => absurd h hr, fun _ _ h => absurd h h0, fun _ _ _ _ => rfl, fun _ _ _ h => absurd (Or.inr ⟨by omega, by omega⟩) h⟩⟩
          · rw [if_neg h4, if_pos (by omega), if_pos (by omega), if_pos (by simpa using hsz)] at hx
            exact ⟨_, hx, ⟨fun h => absurd ⟨hf, hw⟩ h, fun _ h => absurd h hr, fun _ _ h => absurd h h0, fun _ _ _ h => by omega, fun _ _ _ _ => ⟨n, n1, n2, by omega, by simp⟩⟩⟩
        · rw [if_neg hg, if_pos (by omega), if_pos (by omega), if_pos (by simpa using hsz)] at hx
          exact ⟨_, hx, ⟨fun h => absurd ⟨hf, hw⟩ h, fun _ h => absurd h hr, fun _ _ h => absurd h h0, fun _ _ _ h => by omega, fun _ _ _ _ => ⟨n, n1, n2, by omega, by simp⟩⟩⟩
theorem put_ok (t : ByteArray) (r w : Int) (a : ByteArray) (ha : a.size ≤ 140737488351232) {k : Nat} (hk : 1 ≤ k) : ∃ x, impl_PipePut.f k t r w a = some x ∧ PutFacts t r w a x := by
  obtain ⟨k, rfl⟩ : ∃ n, k = n + 1 := ⟨k - 1, by omega⟩
  unfold impl_PipePut.f
  rw [pipeOk_eq]
  simp only [Option.bind_some, decide_eq_true_eq]
  by_cases hf : PipeFine t r w
  · rw [if_pos hf]
    by_cases hw : w = 0
    · have : (w == 0) = true := by simp [hw]
      rw [this]; simp only [impl_PipePut.j0, if_true]
      exact ⟨_, rfl, ⟨fun _ => rfl, fun h => absurd hw h.2, fun h => absurd hw h.2, fun h => absurd hw h.2, fun h => absurd hw h.2⟩⟩
    · have : (w == 0) = false := by simpa using hw
      rw [this]; simp only [impl_PipePut.j0, Bool.false_eq_true, if_false]
      exact put_body t r w a ha hf hw _ rfl
  · rw [if_neg hf]; simp only [impl_PipePut.j0, if_true]
    exact ⟨_, rfl, ⟨fun _ => rfl, fun h => absurd h.1 hf, fun h => absurd h.1 hf, fun h => absurd h.1 hf, fun h => absurd h.1 hf⟩⟩
/-! ### how pipes are drawn -/
theorem text_loop {s : List Int} (hb : Bytes s) (hs : s.length ≤ 2000) (d : Nat) : ∀ (k : Nat) (xs : List Int) (p : Int), d < k → xs.length + d ≤ 1000 → 0 ≤ p → p + d ≤ 1000000000 →
    ∃ t, spec_l92Text.l0 k xs (d : Int) s p = some (t, p + d) ∧ t.size = xs.length + d := by
  induction d with
  | zero =>
    intro k xs p hk _ _ _
    obtain ⟨k, rfl⟩ : ∃ m, k = m + 1 := ⟨k - 1, by omega⟩
    simp only [spec_l92Text.l0]
    rw [if_neg (by omega)]
    refine ⟨strOfNums xs, by simp, ?_⟩
    simp [strOfNums, ByteArray.size]
  | succ d ih =>
    intro k xs p hk hx hp0 hp1
    obtain ⟨k, rfl⟩ : ∃ m, k = m + 1 := ⟨k - 1, by omega⟩
    obtain ⟨v, hv, v0, v1, _⟩ := pick_ok hb hs hp0 (by omega) 12 (k := k) (by omega)
    simp only [spec_l92Text.l0]
    rw [if_pos (by omega), hv]
    simp only [Option.bind_some]
    have v1 := v1 (by omega)
    have e1 : wrap64 (((d + 1 : Nat) : Int) - 1) = (d : Int) := by rw [show ((d + 1 : Nat) : Int) - 1 = (d : Int) by omega]; exact w64 (by omega) (by omega)
    rw [if_pos v0, if_pos v1, if_pos (by omega), e1]
    obtain ⟨t, ht, hts⟩ := ih k (xs ++ [bt (⟨#[97, 98, 99, 100, 101, 102, 103, 104, 48, 49, 32, 46]⟩ : ByteArray) v]) (p + 1) (by omega) (by rw [List.length_append]; simp; omega) (by omega) (by omega)
    refine ⟨t, ?_, ?_⟩
    · rw [ht]; congr 2; omega
    · rw [hts, List.length_append]; simp; omega
theorem text_ok {s : List Int} (hb : Bytes s) (hs : s.length ≤ 2000) {p : Int} (hp0 : 0 ≤ p) (hp1 : p ≤ 900000000) {n : Int} (h0 : 0 ≤ n) (h1 : n ≤ 100) {k : Nat} (hk : n.toNat + 2 ≤ k) :
    ∃ t p', spec_l92Text.f k s p n = some (t, p') ∧ p ≤ p' ∧ p' ≤ p + n + 1 ∧ (t.size : Int) ≤ n := by
  have e1 : wrap64 (n + 1) = n + 1 := w64 (by omega) (by omega)
  obtain ⟨v, hv, v0, v1, _⟩ := pick_ok hb hs hp0 (by omega) (n + 1) (k := k) (by omega)
  have v1 := v1 (by omega)
  obtain ⟨t, ht, hts⟩ := text_loop hb hs v.toNat k [] (p + 1) (by omega) (by simp; omega) (by omega) (by omega)
  have e2 : ((v.toNat : Nat) : Int) = v := by omega
  unfold spec_l92Text.f
  rw [e1, hv]
  simp only [Option.bind_some]
  rw [e2] at ht
  refine ⟨t, p + 1 + v, ht, by omega, by omega, ?_⟩
  rw [hts]; simp; omega
theorem rd3 {v : Int} (v0 : 0 ≤ v) (v1 : v < 3) : -1 ≤ rd [99, 100, (-1)] v ∧ rd [99, 100, (-1)] v ≤ 100 := by
  obtain rfl | rfl | rfl : v = 0 ∨ v = 1 ∨ v = 2 := by omega
  all_goals decide
theorem pipe_ok {s : List Int} (hb : Bytes s) (hs : s.length ≤ 2000) {p : Int} (hp0 : 0 ≤ p) (hp1 : p ≤ 800000000) {k : Nat} (hk : 14 ≤ k) :
    ∃ t r w p', spec_l92Pipe.f k s p = some (t, r, w, p') ∧ p ≤ p' ∧ p' ≤ p + 20 ∧ (-1 ≤ r ∧ r ≤ 100) ∧ (-1 ≤ w ∧ w ≤ 100) ∧ t.size ≤ 9 := by
  obtain ⟨t, p1, ht, hp1a, hp1b, hts⟩ := text_ok hb hs hp0 (by omega) (n := 8) (by omega) (by omega) (k := k) (by omega)
  obtain ⟨r, hr, r0, r1, _⟩ := pick_ok hb hs (p := p1) (by omega) (by omega) 3 (k := k) (by omega)
  obtain ⟨w, hw, w0, w1, _⟩ := pick_ok hb hs (p := p1 + 1) (by omega) (by omega) 3 (k := k) (by omega)
  have r1 := r1 (by omega)
  have w1 := w1 (by omega)
  have tail : ∀ (t : ByteArray) (q : Int) (k : Nat), t.size ≤ 9 → p ≤ q → q ≤ p + 14 → 4 ≤ k → ∃ t' r' w' p', spec_l92Pipe.j1 k s q t r w = some (t', r', w', p') ∧ p ≤ p' ∧ p' ≤ p + 20 ∧ (-1 ≤ r' ∧ r' ≤ 100) ∧ (-1 ≤ w' ∧ w' ≤ 100) ∧ t'.size ≤ 9 := by
    intro t q k ht hq0 hq1 hk
    obtain ⟨k, rfl⟩ : ∃ m, k = m + 1 := ⟨k - 1, by omega⟩
    obtain ⟨x, hx, x0, x1, _⟩ := pick_ok hb hs (p := q) (by omega) (by omega) 20 (k := k) (by omega)
    obtain ⟨y, hy, y0, y1, _⟩ := pick_ok hb hs (p := q + 1) (by omega) (by omega) 3 (k := k) (by omega)
    have y1 := y1 (by omega)
    have y3 := rd3 y0 y1
    simp only [spec_l92Pipe.j1]
    rw [hx]
    simp only [Option.bind_some]
    by_cases c0 : x = 0
    · rw [if_pos c0, hy]; simp only [Option.bind_some]
      rw [if_pos y0, if_pos (by simpa using y1)]
      exact ⟨_, _, _, _, rfl, by omega, by omega, y3, by omega, ht⟩
    · rw [if_neg c0]
      by_cases c1 : x = 1
      · rw [if_pos c1, hy]; simp only [Option.bind_some]
        rw [if_pos y0, if_pos (by simpa using y1)]
        exact ⟨_, _, _, _, rfl, by omega, by omega, by omega, y3, ht⟩
      · rw [if_neg c1]
        by_cases c2 : x = 2
        · rw [if_pos c2]
          exact ⟨_, _, _, _, rfl, by omega, by omega, by omega, by omega, by decide⟩
        · rw [if_neg c2]
          exact ⟨_, _, _, _, rfl, by omega, by omega, by omega, by omega, ht⟩
  obtain ⟨k, rfl⟩ : ∃ m, k = m + 1 := ⟨k - 1, by omega⟩
  unfold spec_l92Pipe.f
  rw [ht]; simp only [Option.bind_some]
  rw [hr]; simp only [Option.bind_some]
  rw [hw]; simp only [Option.bind_some]
  by_cases c : r = 0
  · rw [if_pos c]
    obtain ⟨z, hz, _, _, _⟩ := pick_ok hb hs (p := p1 + 1 + 1) (by omega) (by omega) 4 (k := k + 1) (by omega)
    rw [hz]; simp only [Option.bind_some, spec_l92Pipe.j0]
    split
    · exact tail _ _ k (by decide) (by omega) (by omega) (by omega)
    · exact tail _ _ k (by omega) (by omega) (by omega) (by omega)
  · rw [if_neg c]
    simp only [spec_l92Pipe.j0, Bool.false_eq_true, if_false]
    exact tail _ _ k (by omega) (by omega) (by omega) (by omega)
theorem drawput_ok {l0 : List Int} (hwf : ∀ x ∈ l0, (Lit.int .u8 x).wf = true) {k : Nat} (hk : 16 ≤ k) : ∃ t r w a, spec_DrawPipePut.f k l0 = some (t, r, w, a) ∧ a.size ≤ 12 ∧ t.size ≤ 9 := by
  obtain ⟨s, ho, hb, hs⟩ := open_ok (bytes_of_wf hwf)
  obtain ⟨t, r, w, p, hp, p0, p1, r01, w01, ts⟩ := pipe_ok hb hs (p := 0) (by omega) (by omega) (k := k) (by omega)
  obtain ⟨a, q, ha, _, _, has⟩ := text_ok hb hs (p := p) (by omega) (by omega) (n := 12) (by omega) (by omega) (k := k) (by omega)
  refine ⟨t, r, w, a, ?_, by omega, ts⟩
  unfold spec_DrawPipePut.f
  rw [ho]; simp only [Option.bind_some]
  rw [hp]; simp only [Option.bind_some]
  rw [ha]; simp only [Option.bind_some]

theorem FnPipeWhole : BdFnPipeWhole.Pure := by
  intro l0 l1 ⟨_, hwf⟩ _
  refine ⟨200, ?_⟩
  have done : ∀ k, laws_FnPipeWhole.j0 (k + 1) l0 l1 true = some true := fun k => by simp only [laws_FnPipeWhole.j0, if_true]
  have es : ∀ t r w, spec_PipeOk.f t r w = impl_PipeOk.f t r w := fun _ _ _ => rfl
  unfold laws_FnPipeWhole.f
  by_cases hl : (l0.length : Int) > 1048576
  · rw [if_pos hl]; exact done 199
  · rw [if_neg hl]
    by_cases hl1 : (l1.length : Int) > 1048576
    · have : decide ((l1.length : Int) > 1048576) = true := decide_eq_true hl1
      rw [this]; exact done 199
    · have : decide ((l1.length : Int) > 1048576) = false := decide_eq_false hl1
      rw [this, laws_FnPipeWhole.j0, if_neg (by decide)]
      obtain ⟨t, r, w, a, hd, _, _⟩ := drawput_ok hwf (k := 199) (by omega)
      rw [hd]; simp only [Option.bind_some]
      have hz : (strOfNums (l1.take (((l1.length : Int) % 3) : Int).toNat)).size = (((l1.length : Int) % 3) : Int).toNat := by
        simp [strOfNums, ByteArray.size]; omega
      have hq : ((⟨#[97, 98]⟩ : ByteArray) ++ (strOfNums (l1.take (((l1.length : Int) % 3) : Int).toNat))).size = 2 + (((l1.length : Int) % 3) : Int).toNat := by
        rw [ByteArray.size_append, hz]; rfl
      rw [if_pos (by omega), if_pos (by omega), hz, if_pos (by omega)]
      have hb0 : (((l1.length : Int) % 3) : Int).toNat ≤ 2 := by omega
      generalize (((l1.length : Int) % 3) : Int).toNat = m at hq hb0
      generalize (⟨#[97, 98]⟩ : ByteArray) ++ (strOfNums (l1.take m)) = b at hq
      simp only [es, pipeOk_eq, Option.bind_some]
      by_cases hf : PipeFine t r w
      · have e1 : decide (PipeFine t r w) = true := decide_eq_true hf
        rw [e1]
        simp only [bne_self_eq_false, Bool.false_eq_true, if_false, if_true]
        have over : ∀ k, laws_FnPipeWhole.j1 (k + 1) b true true t r w = some true := fun k => by
          simp only [laws_FnPipeWhole.j1, if_true, es, pipeOk_eq, e1, Option.bind_some]; rfl
        by_cases hr : r = 0
        · rw [if_pos hr]; exact over 198
        · rw [if_neg hr]
          by_cases hw : w = 0
          · rw [if_pos hw]; exact over 198
          · rw [if_neg hw]
            by_cases ht : t.size = 0
            · have : (t.toList != ([] : List UInt8)) = false := by
                rw [bne, beq_nil, ht]; rfl
              rw [this, laws_FnPipeWhole.j1, if_neg (by decide)]
              obtain rfl := empty_of_size ht
              obtain ⟨a1, a2, a3, a4⟩ := hf
              have hr0 : 0 < r := by omega
              -- the first text
              obtain ⟨x1, hx1, F1⟩ := put_ok ⟨#[]⟩ r w b (by omega) (k := 198) (by omega)
              obtain ⟨n, n1, n2, n3, e1⟩ := F1.went ⟨⟨a1, a2, a3, a4⟩, hw⟩ hr (by omega) (by
                rintro (h | ⟨h, _⟩)
                · exact absurd h (by decide)
                · have : (⟨#[]⟩ : ByteArray).size = 0 := rfl
                  omega)
              obtain rfl : n = b.size := by omega
              have eb : (⟨#[]⟩ : ByteArray) ++ b.extract 0 b.size = b := by
                rw [ByteArray.extract_zero_size]; exact ByteArray.empty_append
              rw [eb] at e1
              subst e1
              rw [hx1]; simp only [Option.bind_some]
              -- the second text
              have fb : PipeFine b r w := ⟨by omega, a2, a3, Or.inl hr0⟩
              have hc : (⟨#[120, 121, 122]⟩ : ByteArray).size = 3 := rfl
              obtain ⟨x2, hx2, F2⟩ := put_ok b r w ⟨#[120, 121, 122]⟩ (by omega) (k := 198) (by omega)
              obtain ⟨n', m1, m2, m3, e2⟩ := F2.went ⟨fb, hw⟩ hr (by omega) (by omega)
              obtain rfl : n' = 3 := by omega
              have ec : (⟨#[120, 121, 122]⟩ : ByteArray).extract 0 3 = ⟨#[120, 121, 122]⟩ := by decide
              rw [ec] at e2
              subst e2
              rw [hx2]; simp only [Option.bind_some]
              -- the first one is taken
              have sc : (b ++ (⟨#[120, 121, 122]⟩ : ByteArray)).size = b.size + 3 := by rw [ByteArray.size_append, hc]
              have fc : PipeFine (b ++ (⟨#[120, 121, 122]⟩ : ByteArray)) r w := ⟨by omega, a2, a3, Or.inl hr0⟩
              obtain ⟨⟨t3, r3, w3, o3, c3⟩, hx3, F3⟩ := take_ok (b ++ (⟨#[120, 121, 122]⟩ : ByteArray)) r w (b.size : Int) (k := 198) (by omega)
              obtain ⟨⟨f1, f2⟩, f3, _⟩ := F3.fine ⟨fc, hr, by omega⟩
              obtain ⟨f4, f5, f6⟩ := f3 (Or.inr (by omega))
              simp only at f1 f2 f4 f5 f6
              have em : mn (b.size : Int) (b ++ (⟨#[120, 121, 122]⟩ : ByteArray)).size = (b.size : Int) := by unfold mn; rw [sc]; split <;> omega
              rw [em] at f5 f6
              have e5 : (b ++ (⟨#[120, 121, 122]⟩ : ByteArray)).extract 0 b.size = b := ByteArray.extract_append_eq_left rfl
              have e6 : (b ++ (⟨#[120, 121, 122]⟩ : ByteArray)).extract b.size (b ++ (⟨#[120, 121, 122]⟩ : ByteArray)).size = ⟨#[120, 121, 122]⟩ := ByteArray.extract_append_eq_right rfl (by rw [sc, hc])
              simp only [Int.toNat_natCast] at f5 f6
              rw [e5] at f5
              rw [e6] at f6
              subst f1 f2 f4 f5 f6
              rw [hx3]; simp only [Option.bind_some]
              -- and the second one
              have fd : PipeFine (⟨#[120, 121, 122]⟩ : ByteArray) r3 w3 := ⟨by decide, a2, a3, Or.inl hr0⟩
              obtain ⟨⟨t4, r4, w4, o4, c4⟩, hx4, F4⟩ := take_ok (⟨#[120, 121, 122]⟩ : ByteArray) r3 w3 3 (k := 198) (by omega)
              obtain ⟨_, g3, _⟩ := F4.fine ⟨fd, hr, by omega⟩
              obtain ⟨g4, g5, g6⟩ := g3 (Or.inr (by omega))
              simp only at g4 g5 g6
              have g7 : o4 = ⟨#[120, 121, 122]⟩ := by rw [g5]; decide
              subst g4 g7
              rw [hx4]; simp only [Option.bind_some, if_true]
              rw [ByteArray.toList_eq]
              rfl
            · have : (t.toList != ([] : List UInt8)) = true := by
                rw [bne, beq_nil, decide_eq_false ht]; rfl
              rw [this]; exact over 198
      · have e1 : decide (PipeFine t r w) = false := decide_eq_false hf
        rw [e1]
        simp only [bne_self_eq_false, Bool.false_eq_true, if_false]
        rw [laws_FnPipeWhole.j1, if_pos rfl, es, pipeOk_eq, e1]; rfl

end Go.Proofs.Ytdcblmmfomjhcaa.Pure
