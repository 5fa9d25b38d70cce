/- Once the last writer has left, a pipe's takes hand back its whole text and then the end, within nine takes. -/
import Derived.Test.YtkjijijhecbigaaBdFnPipeDrain
import Derived.WideShapes
import Derived.IntWalk
import Derived.OpenShut
namespace Go.Proofs.Ytkjijijhecbigaa.Pure
open Go.RowKit Go.Proofs.Ytkjijijhecbigaa.XFnPipeDrain Go.Proofs.YtkjijijhecbigaaW.PrintWords Go.Proofs.YtkjijijhecbigaaW.PrintLast
/-! ### small facts on numbers, bytes and rounds -/
theorem w64 {n : Int} (h1 : -9223372036854775808 ≤ n) (h2 : n ≤ 9223372036854775807) : wrap64 n = n := by unfold wrap64; omega
theorem w64_range (n : Int) : -9223372036854775808 ≤ wrap64 n ∧ wrap64 n ≤ 9223372036854775807 := by unfold wrap64; omega
theorem xor_ok {x y : Int} (hx : 0 ≤ x) (hx2 : x < 4611686018427387904) (hy : 0 ≤ y) (hy2 : y < 4611686018427387904) : 0 ≤ Go.bits .xor .i64 x y ∧ Go.bits .xor .i64 x y < 4611686018427387904 := by
  have h1 : (BitVec.ofInt 64 x ^^^ BitVec.ofInt 64 y).toNat < 2 ^ 62 := by
    rw [BitVec.toNat_xor]
    apply Nat.xor_lt_two_pow
    · rw [BitVec.toNat_ofInt]; omega
    · rw [BitVec.toNat_ofInt]; omega
  have h2 : Go.bits .xor .i64 x y = ((BitVec.ofInt 64 x ^^^ BitVec.ofInt 64 y).toNat : Int) := by
    show IntKind.wrap .i64 ((BitVec.ofInt 64 x ^^^ BitVec.ofInt 64 y).toNat : Int) = _
    generalize (BitVec.ofInt 64 x ^^^ BitVec.ofInt 64 y).toNat = m at h1
    exact IntWalk.i64_in _ (by omega)
  rw [h2]; omega
theorem tmod_ok {x n : Int} (hx : 0 ≤ x) (hn : 1 ≤ n) : 0 ≤ Int.tmod x n ∧ Int.tmod x n < n := by
  rw [Int.tmod_eq_emod_of_nonneg hx]
  exact ⟨Int.emod_nonneg _ (by omega), Int.emod_lt_of_pos _ (by omega)⟩
theorem tdiv_ok {x n : Int} (hx : 0 ≤ x) (hn : 1 ≤ n) : 0 ≤ Int.tdiv x n ∧ Int.tdiv x n ≤ x := by
  rw [Int.tdiv_eq_ediv_of_nonneg hx]
  exact ⟨Int.ediv_nonneg hx (by omega), Int.ediv_le_self _ hx⟩
theorem rd_mem {xs : List Int} {i : Int} (h0 : 0 ≤ i) (h1 : i < (xs.length : Int)) : rd xs i ∈ xs := by
  have hl : i.toNat < xs.length := by omega
  unfold rd
  rw [List.getD_eq_getElem?_getD, List.getElem?_eq_getElem hl]
  exact List.getElem_mem hl
def Bytes (s : List Int) : Prop := ∀ x ∈ s, 0 ≤ x ∧ x ≤ 255
theorem bytes_of_wf {s : List Int} (h : ∀ x ∈ s, (Lit.int .u8 x).wf = true) : Bytes s := fun x hx => Go.bounds_u8 (h x hx)
theorem bytes_rd {s : List Int} (h : Bytes s) {i : Int} (h0 : 0 ≤ i) (h1 : i < (s.length : Int)) : 0 ≤ rd s i ∧ rd s i ≤ 255 := h _ (rd_mem h0 h1)
theorem toList_inj {a b : ByteArray} : a.toList = b.toList ↔ a = b := by
  rw [ByteArray.toList_eq, ByteArray.toList_eq]
  constructor
  · intro h; exact Go.WideShapes.bytes_inj h
  · rintro rfl; rfl
theorem toList_nil {a : ByteArray} : a.toList = ([] : List UInt8) ↔ a.size = 0 := by
  rw [ByteArray.toList_eq, List.eq_nil_iff_length_eq_zero, data_length]
/-! ### the reader of a code: l6Open, pick -/
theorem open_ok {l0 : List Int} (hb : Bytes l0) : ∃ s, spec_l6Open.f l0 = some (s, 0) ∧ Bytes s ∧ s.length ≤ 2000 := by
  unfold spec_l6Open.f
  by_cases h : (l0.length : Int) > 2000
  · rw [if_pos h, if_pos (by omega)]
    exact ⟨_, rfl, fun x hx => hb x (List.mem_of_mem_take hx), by rw [List.length_take]; omega⟩
  · rw [if_neg h]
    exact ⟨_, rfl, hb, by omega⟩
theorem pick_ok {s : List Int} (hb : Bytes s) (hs : s.length ≤ 2000) {p : Int} (hp0 : 0 ≤ p) (hp1 : p ≤ 1000000000) (n : Int) {k : Nat} (hk : 1 ≤ k) :
    ∃ v, spec_l6Rd_pick.f k s p n = some (v, p + 1) ∧ 0 ≤ v ∧ (1 ≤ n → v < n) ∧ (n < 1 → v = 0) := by
  obtain ⟨k, rfl⟩ : ∃ m, k = m + 1 := ⟨k - 1, by omega⟩
  have e1 : wrap64 (p + 1) = p + 1 := w64 (by omega) (by omega)
  have e2 : wrap64 (p + 1 - 1) = p := by rw [show p + 1 - 1 = p by omega]; exact w64 (by omega) (by omega)
  unfold spec_l6Rd_pick.f
  by_cases hn : n < 1
  · rw [if_pos hn]; simp only [spec_l6Rd_pick.j0, if_true, e1]
    exact ⟨0, rfl, by omega, by omega, fun _ => rfl⟩
  · rw [if_neg hn]; simp only [spec_l6Rd_pick.j0, e1, e2]
    by_cases h0 : (s.length : Int) = 0
    · have : ((s.length : Int) == 0) = true := by simp [h0]
      rw [this, if_pos rfl]
      exact ⟨0, rfl, by omega, by omega, fun _ => rfl⟩
    · have : ((s.length : Int) == 0) = false := by simpa using h0
      rw [this, if_neg (by decide)]
      by_cases hl : p < (s.length : Int)
      · rw [if_pos hl, if_pos hp0, if_neg (by omega)]
        have hr := bytes_rd hb hp0 hl
        rw [w64 (n := rd s p) (by omega) (by omega)]
        have ht := tmod_ok hr.1 (show 1 ≤ n by omega)
        exact ⟨_, rfl, ht.1, fun _ => ht.2, by omega⟩
      · rw [if_neg hl, if_neg h0]
        have a1 := tmod_ok (x := p) (n := (s.length : Int)) hp0 (by omega)
        rw [if_pos a1.1, if_pos a1.2]
        have e3 : wrap64 (p * 7) = p * 7 := w64 (by omega) (by omega)
        have e4 : wrap64 (p * 7 + 3) = p * 7 + 3 := w64 (by omega) (by omega)
        simp only [e3, e4]
        have a2 := tmod_ok (x := p * 7 + 3) (n := (s.length : Int)) (by omega) (by omega)
        rw [if_pos a2.1, if_pos a2.2, if_neg (by omega)]
        have b1 := bytes_rd hb a1.1 a1.2
        have b2 := bytes_rd hb a2.1 a2.2
        have a3 := tdiv_ok (x := p) (n := (s.length : Int)) hp0 (by omega)
        generalize rd s (p.tmod (s.length : Int)) = x1 at b1 ⊢
        generalize rd s ((p * 7 + 3).tmod (s.length : Int)) = x2 at b2 ⊢
        generalize p.tdiv (s.length : Int) = x3 at a3 ⊢
        have c1 : wrap64 x1 = x1 := w64 (by omega) (by omega)
        have c2 : wrap64 x2 = x2 := w64 (by omega) (by omega)
        have c3 : wrap64 x3 = x3 := w64 (by omega) (by omega)
        have c4 : wrap64 (x1 * 131) = x1 * 131 := w64 (by omega) (by omega)
        have c5 : wrap64 (x2 * 1117) = x2 * 1117 := w64 (by omega) (by omega)
        have c6 : wrap64 (x1 * 131 + x2 * 1117) = x1 * 131 + x2 * 1117 := w64 (by omega) (by omega)
        have c7 : wrap64 (p * 29) = p * 29 := w64 (by omega) (by omega)
        have c8 : wrap64 (x1 * 131 + x2 * 1117 + p * 29) = x1 * 131 + x2 * 1117 + p * 29 := w64 (by omega) (by omega)
        have c9 : wrap64 (x3 * 53) = x3 * 53 := w64 (by omega) (by omega)
        have c10 : wrap64 (x1 * 131 + x2 * 1117 + p * 29 + x3 * 53) = x1 * 131 + x2 * 1117 + p * 29 + x3 * 53 := w64 (by omega) (by omega)
        simp only [c1, c2, c3, c4, c5, c6, c7, c8, c9, c10]
        have a4 := tdiv_ok (x := x1 * 131 + x2 * 1117 + p * 29 + x3 * 53) (n := 64) (by omega) (by omega)
        have c11 : wrap64 ((x1 * 131 + x2 * 1117 + p * 29 + x3 * 53).tdiv 64) = (x1 * 131 + x2 * 1117 + p * 29 + x3 * 53).tdiv 64 := w64 (by omega) (by omega)
        rw [c11]
        have a5 := xor_ok (x := x1 * 131 + x2 * 1117 + p * 29 + x3 * 53) (y := (x1 * 131 + x2 * 1117 + p * 29 + x3 * 53).tdiv 64) (by omega) (by omega) a4.1 (by omega)
        have a6 := tmod_ok a5.1 (show 1 ≤ n by omega)
        exact ⟨_, rfl, a6.1, fun _ => a6.2, by omega⟩
/-! ### PipeOk -/
theorem in_eq (a b c : Int) : impl_in.f a b c = some (decide (b ≤ a ∧ a ≤ c)) := by
  unfold impl_in.f
  by_cases h : a ≥ b <;> simp [h]
def PipeFine (t : ByteArray) (r w : Int) : Prop := t.size ≤ 8 ∧ (0 ≤ r ∧ r ≤ 99) ∧ (0 ≤ w ∧ w ≤ 99) ∧ (0 < r ∨ t.size = 0)
instance (t : ByteArray) (r w : Int) : Decidable (PipeFine t r w) := by unfold PipeFine; infer_instance
theorem beq_nil (t : ByteArray) : (t.toList == ([] : List UInt8)) = decide (t.size = 0) := by
  rw [Bool.eq_iff_iff]
  simp only [beq_iff_eq, decide_eq_true_eq]
  exact toList_nil
theorem pipeOk_eq (t : ByteArray) (r w : Int) : impl_PipeOk.f t r w = some (decide (PipeFine t r w)) := by
  unfold impl_PipeOk.f PipeFine
  simp only [in_eq, Option.bind_some, beq_nil, decide_eq_true_eq]
  by_cases h1 : (t.size : Int) ≤ 8
  · rw [if_pos h1]
    by_cases h2 : 0 ≤ r ∧ r ≤ 99
    · rw [if_pos h2]
      by_cases h3 : 0 ≤ w ∧ w ≤ 99
      · rw [if_pos h3]
        have h1' : t.size ≤ 8 := by omega
        by_cases h4 : r > 0
        · rw [if_pos h4]; simp [h1', h2, h3, h4]
        · rw [if_neg h4]
          have h4' : ¬ 0 < r := h4
          simp [h1', h2, h3, h4']
      · rw [if_neg h3]; simp [h3]
    · rw [if_neg h2]; simp [h2]
  · rw [if_neg h1]
    have h1' : ¬ t.size ≤ 8 := by omega
    simp [h1']
theorem fine_empty : PipeFine ⟨#[]⟩ 0 0 := by unfold PipeFine; exact ⟨by decide, by omega, by omega, Or.inr rfl⟩
theorem empty_of_size {t : ByteArray} (h : t.size = 0) : t = ⟨#[]⟩ := ByteArray.size_eq_zero_iff.1 h
theorem ps_ok : ∀ t r w, PFnExactPipeJoin.impl_PipeOk.f t r w = some (decide (PipeFine t r w)) := pipeOk_eq
theorem ps_gone (t : ByteArray) (r w : Int) : PFnExactPipeJoin.impl_Pipe_gone.f t r w = some (decide (r = 0 ∧ w = 0)) := by
  unfold PFnExactPipeJoin.impl_Pipe_gone.f
  by_cases h : r = 0
  · rw [if_pos h]; simp [h]; rw [Bool.eq_iff_iff]; simp
  · rw [if_neg h]; simp [h]
/-! ### PipeLeave, of the program and of the reference -/
def leaveV (t : ByteArray) (r w : Int) (b : Bool) : ByteArray × Int × Int × Bool :=
  if PipeFine t r w ∧ (if b = true then r ≠ 0 else w ≠ 0) then ((if (if b = true then r - 1 else r) = 0 then (⟨#[]⟩ : ByteArray) else t), (if b = true then r - 1 else r), (if b = true then w else w - 1), true) else (⟨#[]⟩, 0, 0, false)
theorem leave_impl (t : ByteArray) (r w : Int) (b : Bool) : PS.impl_PipeLeave.f t r w b = some (leaveV t r w b) := by
  unfold PS.impl_PipeLeave.f leaveV
  rw [ps_ok, Option.bind_some]
  by_cases h1 : PipeFine t r w
  · obtain ⟨_, hr, hw, hz⟩ := id h1
    rw [if_pos (decide_eq_true h1)]
    cases b with
    | true =>
      rw [if_pos rfl]
      by_cases h3 : r = 0
      · rw [if_pos h3, if_neg (fun z => by have := z.2; rw [if_pos rfl] at this; exact this h3)]
      · rw [if_neg h3, if_pos (show PipeFine t r w ∧ (if true = true then r ≠ 0 else w ≠ 0) from ⟨h1, by rw [if_pos rfl]; exact h3⟩), w64 (by omega) (by omega), ps_gone, Option.bind_some]
        simp only [if_true]
        by_cases h4 : r - 1 = 0
        · by_cases h5 : w = 0
          · simp [h4, h5]
          · simp [h4, h5]
        · simp [h4]
    | false =>
      rw [if_neg (by decide)]
      by_cases h3 : w = 0
      · rw [if_pos h3, if_neg (fun z => by have := z.2; rw [if_neg (by decide)] at this; exact this h3)]
      · rw [if_neg h3, if_pos (show PipeFine t r w ∧ (if false = true then r ≠ 0 else w ≠ 0) from ⟨h1, by rw [if_neg (by decide)]; exact h3⟩), w64 (by omega) (by omega), ps_gone, Option.bind_some]
        have ht : r = 0 → t = ⟨#[]⟩ := fun z => empty_of_size (by omega)
        by_cases h4 : r = 0
        · have := ht h4; subst this
          by_cases h5 : w - 1 = 0
          · simp [h4, h5]
          · simp [h4, h5]
        · simp [h4]
  · rw [if_neg (by simpa using h1), if_neg (fun z => h1 z.1)]
/-! ### PipeTake, of the program and of the reference -/
structure TakeFacts (t : ByteArray) (r w m : Int) (x : ByteArray × Int × Int × ByteArray × Int) : Prop where
  bad : ¬ (PipeFine t r w ∧ r ≠ 0 ∧ 0 ≤ m) → x.2.2.2.2 = 1
  fine : PipeFine t r w ∧ r ≠ 0 ∧ 0 ≤ m → (x.2.1 = r ∧ x.2.2.1 = w) ∧
    ((m = 0 ∨ 0 < t.size) → x.2.2.2.2 = 0 ∧ x.2.2.2.1 = t.extract 0 (mn m t.size).toNat ∧ x.1 = t.extract (mn m t.size).toNat t.size) ∧
    (¬ (m = 0 ∨ 0 < t.size) → x.1 = t ∧ x.2.2.2.1 = ⟨#[]⟩ ∧ x.2.2.2.2 = if w = 0 then 3 else 2)
theorem take_ok (t : ByteArray) (r w m : Int) {k : Nat} (hk : 3 ≤ k) : ∃ x, impl_PipeTake.f k t r w m = some x ∧ TakeFacts t r w m x := by
  obtain ⟨k, rfl⟩ : ∃ n, k = n + 2 := ⟨k - 2, by omega⟩
  unfold impl_PipeTake.f
  rw [pipeOk_eq]
  simp only [Option.bind_some, decide_eq_true_eq]
  by_cases hf : PipeFine t r w
  · rw [if_pos hf]
    by_cases hr : r = 0
    · rw [if_pos hr]
      simp only [impl_PipeTake.j0, if_true]
      exact ⟨_, rfl, ⟨fun _ => rfl, fun h => absurd hr h.2.1⟩⟩
    · rw [if_neg hr]
      by_cases hm : m < 0
      · simp only [impl_PipeTake.j0, hm, decide_true, if_true]
        exact ⟨_, rfl, ⟨fun _ => rfl, fun h => by omega⟩⟩
      · have h0 : (0 : Int) ≤ t.size := by omega
        have hmn : 0 ≤ mn m t.size ∧ mn m t.size ≤ t.size := by unfold mn; split <;> omega
        simp only [impl_PipeTake.j0, hm, decide_false, Bool.false_eq_true, if_false]
        by_cases hz : m = 0
        · have e0 : mn m t.size = 0 := by unfold mn; split <;> omega
          rw [e0, if_neg (by omega)]
          have hb : (m == 0) = true := by simp [hz]
          simp only [impl_PipeTake.j1, hb, if_true]
          rw [if_pos (by omega), if_pos h0]
          have e1 : t.extract (0 : Int).toNat t.size = t := ByteArray.extract_zero_size
          have e2 : t.extract 0 (0 : Int).toNat = ⟨#[]⟩ := ByteArray.extract_same
          rw [e1, e2]
          refine ⟨_, rfl, ⟨fun h => absurd ⟨hf, hr, by omega⟩ h, fun _ => ⟨⟨rfl, rfl⟩, fun _ => ⟨rfl, ?_, ?_⟩, fun h => absurd (Or.inl hz) h⟩⟩⟩
          · rw [e0]; exact e2.symm
          · rw [e0]; exact e1.symm
        · have hb : (m == 0) = false := by simpa using hz
          by_cases ht : t.toList = ([] : List UInt8)
          · have hs := toList_nil.1 ht
            have e0 : mn m t.size = 0 := by unfold mn; split <;> omega
            rw [e0, if_neg (by omega)]
            simp only [impl_PipeTake.j1, hb, Bool.false_eq_true, if_false]
            by_cases hw : w = 0
            · rw [if_pos hw]
              exact ⟨_, rfl, ⟨fun h => absurd ⟨hf, hr, by omega⟩ h, fun _ => ⟨⟨rfl, rfl⟩, fun h => by omega, fun _ => ⟨rfl, rfl, by rw [if_pos hw]⟩⟩⟩⟩
            · rw [if_neg hw]
              exact ⟨_, rfl, ⟨fun h => absurd ⟨hf, hr, by omega⟩ h, fun _ => ⟨⟨rfl, rfl⟩, fun h => by omega, fun _ => ⟨rfl, rfl, by rw [if_neg hw]⟩⟩⟩⟩
          · have hs : t.size ≠ 0 := fun h => ht (toList_nil.2 h)
            have e0 : 0 < mn m t.size := by unfold mn; split <;> omega
            rw [if_pos e0]
            simp only [impl_PipeTake.j1, if_true]
            rw [if_pos hmn.1, if_pos hmn.2]
            exact ⟨_, rfl, ⟨fun h => absurd ⟨hf, hr, by omega⟩ h, fun _ => ⟨⟨rfl, rfl⟩, fun _ => ⟨rfl, rfl, rfl⟩, fun h => absurd (Or.inr (by omega)) h⟩⟩⟩
  · rw [if_neg hf]
    simp only [impl_PipeTake.j0, if_true]
    exact ⟨_, rfl, ⟨fun _ => rfl, fun h => absurd h.1 hf⟩⟩
theorem extract_both (t : ByteArray) {n : Nat} (h : n ≤ t.size) : t.extract 0 n ++ t.extract n t.size = t := by
  rw [ByteArray.extract_append_extract, Nat.min_eq_left (by omega), Nat.max_eq_right (by omega)]
  exact ByteArray.extract_zero_size
/-! ### how pipes are drawn -/
theorem text_loop {s : List Int} (hb : Bytes s) (hs : s.length ≤ 2000) (d : Nat) : ∀ (k : Nat) (xs : List Int) (p : Int), d < k → xs.length + d ≤ 1000 → 0 ≤ p → p + d ≤ 1000000000 →
    ∃ t, spec_l92Text.l0 k xs (d : Int) s p = some (t, p + d) ∧ t.size = xs.length + d := by
  induction d with
  | zero =>
    intro k xs p hk _ _ _
    obtain ⟨k, rfl⟩ : ∃ m, k = m + 1 := ⟨k - 1, by omega⟩
    simp only [spec_l92Text.l0]
    rw [if_neg (by omega)]
    refine ⟨strOfNums xs, by simp, ?_⟩
    simp [strOfNums, ByteArray.size]
  | succ d ih =>
    intro k xs p hk hx hp0 hp1
    obtain ⟨k, rfl⟩ : ∃ m, k = m + 1 := ⟨k - 1, by omega⟩
    obtain ⟨v, hv, v0, v1, _⟩ := pick_ok hb hs hp0 (by omega) 12 (k := k) (by omega)
    simp only [spec_l92Text.l0]
    rw [if_pos (by omega), hv]
    simp only [Option.bind_some]
    have v1 := v1 (by omega)
    have e1 : wrap64 (((d + 1 : Nat) : Int) - 1) = (d : Int) := by rw [show ((d + 1 : Nat) : Int) - 1 = (d : Int) by omega]; exact w64 (by omega) (by omega)
    rw [if_pos v0, if_pos v1, if_pos (by omega), e1]
    obtain ⟨t, ht, hts⟩ := ih k (xs ++ [bt (⟨#[97, 98, 99, 100, 101, 102, 103, 104, 48, 49, 32, 46]⟩ : ByteArray) v]) (p + 1) (by omega) (by rw [List.length_append]; simp; omega) (by omega) (by omega)
    refine ⟨t, ?_, ?_⟩
    · rw [ht]; congr 2; omega
    · rw [hts, List.length_append]; simp; omega
theorem text_ok {s : List Int} (hb : Bytes s) (hs : s.length ≤ 2000) {p : Int} (hp0 : 0 ≤ p) (hp1 : p ≤ 900000000) {n : Int} (h0 : 0 ≤ n) (h1 : n ≤ 100) {k : Nat} (hk : n.toNat + 2 ≤ k) :
    ∃ t p', spec_l92Text.f k s p n = some (t, p') ∧ p ≤ p' ∧ p' ≤ p + n + 1 ∧ (t.size : Int) ≤ n := by
  have e1 : wrap64 (n + 1) = n + 1 := w64 (by omega) (by omega)
  obtain ⟨v, hv, v0, v1, _⟩ := pick_ok hb hs hp0 (by omega) (n + 1) (k := k) (by omega)
  have v1 := v1 (by omega)
  obtain ⟨t, ht, hts⟩ := text_loop hb hs v.toNat k [] (p + 1) (by omega) (by simp; omega) (by omega) (by omega)
  have e2 : ((v.toNat : Nat) : Int) = v := by omega
  unfold spec_l92Text.f
  rw [e1, hv]
  simp only [Option.bind_some]
  rw [e2] at ht
  refine ⟨t, p + 1 + v, ht, by omega, by omega, ?_⟩
  rw [hts]; simp; omega
theorem rd3 {v : Int} (v0 : 0 ≤ v) (v1 : v < 3) : -1 ≤ rd [99, 100, (-1)] v ∧ rd [99, 100, (-1)] v ≤ 100 := by
  obtain rfl | rfl | rfl : v = 0 ∨ v = 1 ∨ v = 2 := by omega
  all_goals decide
theorem pipe_ok {s : List Int} (hb : Bytes s) (hs : s.length ≤ 2000) {p : Int} (hp0 : 0 ≤ p) (hp1 : p ≤ 800000000) {k : Nat} (hk : 14 ≤ k) :
    ∃ t r w p', spec_l92Pipe.f k s p = some (t, r, w, p') ∧ p ≤ p' ∧ p' ≤ p + 20 ∧ (-1 ≤ r ∧ r ≤ 100) ∧ (-1 ≤ w ∧ w ≤ 100) ∧ t.size ≤ 9 := by
  obtain ⟨t, p1, ht, hp1a, hp1b, hts⟩ := text_ok hb hs hp0 (by omega) (n := 8) (by omega) (by omega) (k := k) (by omega)
  obtain ⟨r, hr, r0, r1, _⟩ := pick_ok hb hs (p := p1) (by omega) (by omega) 3 (k := k) (by omega)
  obtain ⟨w, hw, w0, w1, _⟩ := pick_ok hb hs (p := p1 + 1) (by omega) (by omega) 3 (k := k) (by omega)
  have r1 := r1 (by omega)
  have w1 := w1 (by omega)
  have tail : ∀ (t : ByteArray) (q : Int) (k : Nat), t.size ≤ 9 → p ≤ q → q ≤ p + 14 → 4 ≤ k → ∃ t' r' w' p', spec_l92Pipe.j1 k s q t r w = some (t', r', w', p') ∧ p ≤ p' ∧ p' ≤ p + 20 ∧ (-1 ≤ r' ∧ r' ≤ 100) ∧ (-1 ≤ w' ∧ w' ≤ 100) ∧ t'.size ≤ 9 := by
    intro t q k ht hq0 hq1 hk
    obtain ⟨k, rfl⟩ : ∃ m, k = m + 1 := ⟨k - 1, by omega⟩
    obtain ⟨x, hx, x0, x1, _⟩ := pick_ok hb hs (p := q) (by omega) (by omega) 20 (k := k) (by omega)
    obtain ⟨y, hy, y0, y1, _⟩ := pick_ok hb hs (p := q + 1) (by omega) (by omega) 3 (k := k) (by omega)
    have y1 := y1 (by omega)
    have y3 := rd3 y0 y1
    simp only [spec_l92Pipe.j1]
    rw [hx]
    simp only [Option.bind_some]
    by_cases c0 : x = 0
    · rw [if_pos c0, hy]; simp only [Option.bind_some]
      rw [if_pos y0, if_pos (by simpa using y1)]
      exact ⟨_, _, _, _, rfl, by omega, by omega, y3, by omega, ht⟩
    · rw [if_neg c0]
      by_cases c1 : x = 1
      · rw [if_pos c1, hy]; simp only [Option.bind_some]
        rw [if_pos y0, if_pos (by simpa using y1)]
        exact ⟨_, _, _, _, rfl, by omega, by omega, by omega, y3, ht⟩
      · rw [if_neg c1]
        by_cases c2 : x = 2
        · rw [if_pos c2]
          exact ⟨_, _, _, _, rfl, by omega, by omega, by omega, by omega, by decide⟩
        · rw [if_neg c2]
          exact ⟨_, _, _, _, rfl, by omega, by omega, by omega, by omega, ht⟩
  obtain ⟨k, rfl⟩ : ∃ m, k = m + 1 := ⟨k - 1, by omega⟩
  unfold spec_l92Pipe.f
  rw [ht]; simp only [Option.bind_some]
  rw [hr]; simp only [Option.bind_some]
  rw [hw]; simp only [Option.bind_some]
  by_cases c : r = 0
  · rw [if_pos c]
    obtain ⟨z, hz, _, _, _⟩ := pick_ok hb hs (p := p1 + 1 + 1) (by omega) (by omega) 4 (k := k + 1) (by omega)
    rw [hz]; simp only [Option.bind_some, spec_l92Pipe.j0]
    split
    · exact tail _ _ k (by decide) (by omega) (by omega) (by omega)
    · exact tail _ _ k (by omega) (by omega) (by omega) (by omega)
  · rw [if_neg c]
    simp only [spec_l92Pipe.j0, Bool.false_eq_true, if_false]
    exact tail _ _ k (by omega) (by omega) (by omega) (by omega)

theorem amount (m : Int) : 1 ≤ mx 1 (mn m 5) ∧ mx 1 (mn m 5) ≤ 5 := by unfold mx mn; split <;> split <;> omega
theorem drain_takes (m : Int) (was : ByteArray) (r : Int) (hr : 1 ≤ r ∧ r ≤ 99) (hw : was.size ≤ 8) (d : Nat) : ∀ (k i : Nat) (t out : ByteArray), i + d = 9 → d + 6 < k → t.size < d → out ++ t = was → laws_FnPipeDrain.l1 k m was out (i : Int) t r 0 = some true := by
  induction d with
  | zero => intro k i t out _ _ h; omega
  | succ d ih =>
    intro k i t out hi hk ht ho
    obtain ⟨k, rfl⟩ : ∃ m, k = m + 1 := ⟨k - 1, by omega⟩
    have hz : out.size + t.size = was.size := by rw [← ho, ByteArray.size_append]
    obtain ⟨q1, q5⟩ := amount m
    have hp : PipeFine t r 0 ∧ r ≠ 0 ∧ 0 ≤ mx 1 (mn m 5) := ⟨⟨by omega, by omega, by omega, Or.inl (by omega)⟩, by omega, by omega⟩
    obtain ⟨⟨y, r', w', s, c⟩, h1, hf⟩ := take_ok t r 0 (mx 1 (mn m 5)) (k := k) (by omega)
    obtain ⟨⟨e1, e2⟩, f1, f2⟩ := hf.fine hp
    simp only at e1 e2 f1 f2
    have i9 : (i : Int) < 9 := by omega
    rw [laws_FnPipeDrain.l1, if_pos i9, h1, Option.bind_some]
    generalize hq : mx 1 (mn m 5) = q at q1 q5 f1 f2
    by_cases c0 : 0 < t.size
    · obtain ⟨g1, g2, g3⟩ := f1 (Or.inr c0)
      have hn : 1 ≤ (mn q t.size).toNat ∧ (mn q t.size).toNat ≤ t.size := by unfold mn; split <;> omega
      generalize (mn q t.size).toNat = n at hn g2 g3
      have hb := extract_both t hn.2
      rw [← g2, ← g3] at hb
      have hy : y.size < d := by
        have : y.size = t.size - n := by rw [g3, ByteArray.size_extract]; omega
        omega
      have hs : s.size ≤ t.size := by rw [g2, ByteArray.size_extract]; omega
      have w1 : wrap64 ((i : Int) + 1) = ((i + 1 : Nat) : Int) := by rw [w64 (by omega) (by omega)]; omega
      simp only [g1, e1, e2]
      rw [if_neg (by decide), if_pos (by omega), w1]
      clear w1
      refine ih k (i + 1) y (out ++ s) (by omega) (by omega) hy ?_
      rw [ByteArray.append_assoc, hb]; exact ho
    · obtain ⟨g1, g2, g3⟩ := f2 (by omega)
      rw [if_pos trivial] at g3
      simp only [g3]
      rw [if_pos trivial]
      have : t = ⟨#[]⟩ := empty_of_size (by omega)
      subst this
      have : out = was := by rw [← ho]; exact (ByteArray.append_empty).symm
      rw [this]; simp
theorem drain_leaves (m : Int) (t : ByteArray) (r : Int) (hr : 1 ≤ r ∧ r ≤ 99) (ht : t.size ≤ 8) (d : Nat) : ∀ k : Nat, d ≤ 99 → d + 20 < k → laws_FnPipeDrain.l0 k m t r (d : Int) = some true := by
  induction d with
  | zero =>
    intro k _ hk
    obtain ⟨k, rfl⟩ : ∃ m, k = m + 1 := ⟨k - 1, by omega⟩
    rw [laws_FnPipeDrain.l0, if_neg (by omega)]
    exact drain_takes m t r hr ht 9 k 0 t ⟨#[]⟩ (by omega) (by omega) (by omega) ByteArray.empty_append
  | succ d ih =>
    intro k hd hk
    obtain ⟨k, rfl⟩ : ∃ m, k = m + 1 := ⟨k - 1, by omega⟩
    have hv : leaveV t r ((d + 1 : Nat) : Int) false = (t, r, (d : Int), true) := by
      unfold leaveV
      simp only [Bool.false_eq_true, if_false]
      rw [if_pos ⟨⟨ht, by omega, by omega, Or.inl (by omega)⟩, by omega⟩, if_neg (by omega)]
      congr 3; omega
    rw [laws_FnPipeDrain.l0, if_pos (by omega), leave_impl, hv, Option.bind_some, if_pos rfl]
    exact ih k (by omega) (by omega)

theorem FnPipeDrain : BdFnPipeDrain.Pure := by
  intro l0 ⟨_, hwf⟩
  obtain ⟨K, hK⟩ : ∃ K : Nat, 200 ≤ K := ⟨200, Nat.le_refl _⟩
  refine ⟨K + 1, ?_⟩
  unfold laws_FnPipeDrain.f
  by_cases hl : (l0.length : Int) > 1048576
  · rw [if_pos hl]
  · rw [if_neg hl]
    obtain ⟨s, ho, hb, hs⟩ := open_ok (bytes_of_wf hwf)
    obtain ⟨t, r, w, p, hp, p0, p1, r01, w01, ts⟩ := pipe_ok hb hs (p := 0) (by omega) (by omega) (k := K + 1) (by omega)
    obtain ⟨m, hm, m0, m1, _⟩ := pick_ok hb hs (p := p) (by omega) (by omega) 12 (k := K + 1) (by omega)
    have m1 := m1 (by omega)
    have hd : spec_DrawPipeTake.f (K + 1) l0 = some (t, r, w, m - 1) := by
      unfold spec_DrawPipeTake.f
      rw [ho]; simp only [Option.bind_some]
      rw [hp]; simp only [Option.bind_some]
      rw [hm]; simp only [Option.bind_some]
      rw [w64 (by omega) (by omega)]
    have es : spec_PipeOk.f t r w = some (decide (PipeFine t r w)) := pipeOk_eq t r w
    rw [hd]; simp only [Option.bind_some]
    rw [pipeOk_eq, es]; simp only [Option.bind_some]
    rw [if_neg (by simp)]
    have stop : ∀ o, o = decide (PipeFine t r w) → laws_FnPipeDrain.j0 (K + 1) (m - 1) o true t r w = some true := by
      intro o h
      rw [laws_FnPipeDrain.j0, if_pos rfl, es, Option.bind_some, h]; simp
    by_cases h : PipeFine t r w
    · rw [if_pos (decide_eq_true h)]
      by_cases c : r = 0
      · rw [show (r == 0) = true from by simp [c]]
        exact stop _ rfl
      · rw [show (r == 0) = false from by simp [c]]
        obtain ⟨h1, h2, h3, _⟩ := h
        rw [laws_FnPipeDrain.j0, if_neg (by decide)]
        have := drain_leaves (m - 1) t r (by omega) h1 w.toNat K (by omega) (by omega)
        rw [show ((w.toNat : Nat) : Int) = w by omega] at this
        exact this
    · rw [if_neg (by simpa using h)]
      exact stop _ rfl

end Go.Proofs.Ytkjijijhecbigaa.Pure
