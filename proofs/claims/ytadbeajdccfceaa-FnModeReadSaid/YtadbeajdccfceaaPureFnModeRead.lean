/- Just texts of modes are read: at every code. -/
import Derived.Test.YtadbeajdccfceaaBdFnModeRead
import Derived.WideShapes
import Derived.IntWalk
import Derived.OpenShut
namespace Go.Proofs.Ytadbeajdccfceaa.Pure
open Go.RowKit Go.Proofs.Ytadbeajdccfceaa.XFnModeRead Go.Proofs.YtadbeajdccfceaaW.PrintWords Go.Proofs.YtadbeajdccfceaaW.PrintLast

/-! ### small facts on numbers, bytes and rounds -/
theorem w64 {n : Int} (h1 : -9223372036854775808 ≤ n) (h2 : n ≤ 9223372036854775807) : wrap64 n = n := by unfold wrap64; omega
theorem w64_range (n : Int) : -9223372036854775808 ≤ wrap64 n ∧ wrap64 n ≤ 9223372036854775807 := by unfold wrap64; omega
theorem xor_ok {x y : Int} (hx : 0 ≤ x) (hx2 : x < 4611686018427387904) (hy : 0 ≤ y) (hy2 : y < 4611686018427387904) : 0 ≤ Go.bits .xor .i64 x y ∧ Go.bits .xor .i64 x y < 4611686018427387904 := by
  have h1 : (BitVec.ofInt 64 x ^^^ BitVec.ofInt 64 y).toNat < 2 ^ 62 := by
    rw [BitVec.toNat_xor]
    apply Nat.xor_lt_two_pow
    · rw [BitVec.toNat_ofInt]; omega
    · rw [BitVec.toNat_ofInt]; omega
  have h2 : Go.bits .xor .i64 x y = ((BitVec.ofInt 64 x ^^^ BitVec.ofInt 64 y).toNat : Int) := by
    show IntKind.wrap .i64 ((BitVec.ofInt 64 x ^^^ BitVec.ofInt 64 y).toNat : Int) = _
    generalize (BitVec.ofInt 64 x ^^^ BitVec.ofInt 64 y).toNat = m at h1
    exact IntWalk.i64_in _ (by omega)
  rw [h2]; omega
theorem tmod_ok {x n : Int} (hx : 0 ≤ x) (hn : 1 ≤ n) : 0 ≤ Int.tmod x n ∧ Int.tmod x n < n := by
  rw [Int.tmod_eq_emod_of_nonneg hx]
  exact ⟨Int.emod_nonneg _ (by omega), Int.emod_lt_of_pos _ (by omega)⟩
theorem tdiv_ok {x n : Int} (hx : 0 ≤ x) (hn : 1 ≤ n) : 0 ≤ Int.tdiv x n ∧ Int.tdiv x n ≤ x := by
  rw [Int.tdiv_eq_ediv_of_nonneg hx]
  exact ⟨Int.ediv_nonneg hx (by omega), Int.ediv_le_self _ hx⟩
theorem rd_mem {xs : List Int} {i : Int} (h0 : 0 ≤ i) (h1 : i < (xs.length : Int)) : rd xs i ∈ xs := by
  have hl : i.toNat < xs.length := by omega
  unfold rd
  rw [List.getD_eq_getElem?_getD, List.getElem?_eq_getElem hl]
  exact List.getElem_mem hl
def Bytes (s : List Int) : Prop := ∀ x ∈ s, 0 ≤ x ∧ x ≤ 255
theorem bytes_of_wf {s : List Int} (h : ∀ x ∈ s, (Lit.int .u8 x).wf = true) : Bytes s := fun x hx => Go.bounds_u8 (h x hx)
theorem bytes_rd {s : List Int} (h : Bytes s) {i : Int} (h0 : 0 ≤ i) (h1 : i < (s.length : Int)) : 0 ≤ rd s i ∧ rd s i ≤ 255 := h _ (rd_mem h0 h1)
theorem toList_inj {a b : ByteArray} : a.toList = b.toList ↔ a = b := by
  rw [ByteArray.toList_eq, ByteArray.toList_eq]
  constructor
  · intro h; exact Go.WideShapes.bytes_inj h
  · rintro rfl; rfl
theorem toList_nil {a : ByteArray} : a.toList = ([] : List UInt8) ↔ a.size = 0 := by
  rw [ByteArray.toList_eq, List.eq_nil_iff_length_eq_zero, data_length]
/-! ### the reader of a code: l6Open, pick -/
theorem open_ok {l0 : List Int} (hb : Bytes l0) : ∃ s, spec_l6Open.f l0 = some (s, 0) ∧ Bytes s ∧ s.length ≤ 2000 := by
  unfold spec_l6Open.f
  by_cases h : (l0.length : Int) > 2000
  · rw [if_pos h, if_pos (by omega)]
    exact ⟨_, rfl, fun x hx => hb x (List.mem_of_mem_take hx), by rw [List.length_take]; omega⟩
  · rw [if_neg h]
    exact ⟨_, rfl, hb, by omega⟩
theorem pick_ok {s : List Int} (hb : Bytes s) (hs : s.length ≤ 2000) {p : Int} (hp0 : 0 ≤ p) (hp1 : p ≤ 1000000000) (n : Int) {k : Nat} (hk : 1 ≤ k) :
    ∃ v, spec_l6Rd_pick.f k s p n = some (v, p + 1) ∧ 0 ≤ v ∧ (1 ≤ n → v < n) ∧ (n < 1 → v = 0) := by
  obtain ⟨k, rfl⟩ : ∃ m, k = m + 1 := ⟨k - 1, by omega⟩
  have e1 : wrap64 (p + 1) = p + 1 := w64 (by omega) (by omega)
  have e2 : wrap64 (p + 1 - 1) = p := by rw [show p + 1 - 1 = p by omega]; exact w64 (by omega) (by omega)
  unfold spec_l6Rd_pick.f
  by_cases hn : n < 1
  · rw [if_pos hn]; simp only [spec_l6Rd_pick.j0, if_true, e1]
    exact ⟨0, rfl, by omega, by omega, fun _ => rfl⟩
  · rw [if_neg hn]; simp only [spec_l6Rd_pick.j0, e1, e2]
    by_cases h0 : (s.length : Int) = 0
    · have : ((s.length : Int) == 0) = true := by simp [h0]
      rw [this, if_pos rfl]
      exact ⟨0, rfl, by omega, by omega, fun _ => rfl⟩
    · have : ((s.length : Int) == 0) = false := by simpa using h0
      rw [this, if_neg (by decide)]
      by_cases hl : p < (s.length : Int)
      · rw [if_pos hl, if_pos hp0, if_neg (by omega)]
        have hr := bytes_rd hb hp0 hl
        rw [w64 (n := rd s p) (by omega) (by omega)]
        have ht := tmod_ok hr.1 (show 1 ≤ n by omega)
        exact ⟨_, rfl, ht.1, fun _ => ht.2, by omega⟩
      · rw [if_neg hl, if_neg h0]
        have a1 := tmod_ok (x := p) (n := (s.length : Int)) hp0 (by omega)
        rw [if_pos a1.1, if_pos a1.2]
        have e3 : wrap64 (p * 7) = p * 7 := w64 (by omega) (by omega)
        have e4 : wrap64 (p * 7 + 3) = p * 7 + 3 := w64 (by omega) (by omega)
        simp only [e3, e4]
        have a2 := tmod_ok (x := p * 7 + 3) (n := (s.length : Int)) (by omega) (by omega)
        rw [if_pos a2.1, if_pos a2.2, if_neg (by omega)]
        have b1 := bytes_rd hb a1.1 a1.2
        have b2 := bytes_rd hb a2.1 a2.2
        have a3 := tdiv_ok (x := p) (n := (s.length : Int)) hp0 (by omega)
        generalize rd s (p.tmod (s.length : Int)) = x1 at b1 ⊢
        generalize rd s ((p * 7 + 3).tmod (s.length : Int)) = x2 at b2 ⊢
        generalize p.tdiv (s.length : Int) = x3 at a3 ⊢
        have c1 : wrap64 x1 = x1 := w64 (by omega) (by omega)
        have c2 : wrap64 x2 = x2 := w64 (by omega) (by omega)
        have c3 : wrap64 x3 = x3 := w64 (by omega) (by omega)
        have c4 : wrap64 (x1 * 131) = x1 * 131 := w64 (by omega) (by omega)
        have c5 : wrap64 (x2 * 1117) = x2 * 1117 := w64 (by omega) (by omega)
        have c6 : wrap64 (x1 * 131 + x2 * 1117) = x1 * 131 + x2 * 1117 := w64 (by omega) (by omega)
        have c7 : wrap64 (p * 29) = p * 29 := w64 (by omega) (by omega)
        have c8 : wrap64 (x1 * 131 + x2 * 1117 + p * 29) = x1 * 131 + x2 * 1117 + p * 29 := w64 (by omega) (by omega)
        have c9 : wrap64 (x3 * 53) = x3 * 53 := w64 (by omega) (by omega)
        have c10 : wrap64 (x1 * 131 + x2 * 1117 + p * 29 + x3 * 53) = x1 * 131 + x2 * 1117 + p * 29 + x3 * 53 := w64 (by omega) (by omega)
        simp only [c1, c2, c3, c4, c5, c6, c7, c8, c9, c10]
        have a4 := tdiv_ok (x := x1 * 131 + x2 * 1117 + p * 29 + x3 * 53) (n := 64) (by omega) (by omega)
        have c11 : wrap64 ((x1 * 131 + x2 * 1117 + p * 29 + x3 * 53).tdiv 64) = (x1 * 131 + x2 * 1117 + p * 29 + x3 * 53).tdiv 64 := w64 (by omega) (by omega)
        rw [c11]
        have a5 := xor_ok (x := x1 * 131 + x2 * 1117 + p * 29 + x3 * 53) (y := (x1 * 131 + x2 * 1117 + p * 29 + x3 * 53).tdiv 64) (by omega) (by omega) a4.1 (by omega)
        have a6 := tmod_ok a5.1 (show 1 ≤ n by omega)
        exact ⟨_, rfl, a6.1, fun _ => a6.2, by omega⟩
/-! ### how modes are drawn -/
theorem mode_ok {s : List Int} (hb : Bytes s) (hs : s.length ≤ 2000) {p : Int} (hp0 : 0 ≤ p) (hp1 : p ≤ 800000000) {k : Nat} (hk : 1 ≤ k) : ∃ m p', spec_l91Mode.f k s p = some (m, p') ∧ p ≤ p' ∧ p' ≤ p + 10 := by
  obtain ⟨v, hv, v0, v1, _⟩ := pick_ok hb hs hp0 (by omega) 20 (k := k) hk
  unfold spec_l91Mode.f
  rw [hv]; simp only [Option.bind_some]
  by_cases c : v = 0
  · rw [if_pos c]
    obtain ⟨a, ha, a0, a1, _⟩ := pick_ok hb hs (p := p + 1) (by omega) (by omega) 3 (k := k) hk
    have a1 := a1 (by omega)
    rw [ha]; simp only [Option.bind_some]
    rw [if_pos a0, if_pos (by simpa using a1)]
    exact ⟨_, _, rfl, by omega, by omega⟩
  · rw [if_neg c]
    obtain ⟨a, ha, _, _, _⟩ := pick_ok hb hs (p := p + 1) (by omega) (by omega) 8 (k := k) hk
    obtain ⟨b, hb', _, _, _⟩ := pick_ok hb hs (p := p + 1 + 1) (by omega) (by omega) 64 (k := k) hk
    obtain ⟨d, hd, _, _, _⟩ := pick_ok hb hs (p := p + 1 + 1 + 1) (by omega) (by omega) 8 (k := k) hk
    obtain ⟨e, he, e0, e1, _⟩ := pick_ok hb hs (p := p + 1 + 1 + 1 + 1) (by omega) (by omega) 7 (k := k) hk
    have e1 := e1 (by omega)
    rw [ha]; simp only [Option.bind_some]
    rw [hb']; simp only [Option.bind_some]
    rw [hd]; simp only [Option.bind_some]
    rw [he]; simp only [Option.bind_some]
    rw [if_pos e0, if_pos (by simpa using e1)]
    exact ⟨_, _, rfl, by omega, by omega⟩
/-! ### the 512 texts of modes -/
def val9 (b0 b1 b2 b3 b4 b5 b6 b7 b8 : Bool) : Int := ((b0.toNat * 256 + b1.toNat * 128 + b2.toNat * 64 + b3.toNat * 32 + b4.toNat * 16 + b5.toNat * 8 + b6.toNat * 4 + b7.toNat * 2 + b8.toNat : Nat) : Int)
def arr9 (b0 b1 b2 b3 b4 b5 b6 b7 b8 : Bool) : ByteArray := ⟨#[if b0 then 114 else 45, if b1 then 119 else 45, if b2 then 120 else 45, if b3 then 114 else 45, if b4 then 119 else 45, if b5 then 120 else 45, if b6 then 114 else 45, if b7 then 119 else 45, if b8 then 120 else 45]⟩
def txt (n : Nat) : ByteArray := arr9 (n.testBit 8) (n.testBit 7) (n.testBit 6) (n.testBit 5) (n.testBit 4) (n.testBit 3) (n.testBit 2) (n.testBit 1) (n.testBit 0)
theorem spec_txt : ∀ n : Fin 512, spec_ModeText.f 12 (n.val : Int) = some (txt n.val) := by decide +kernel
theorem txt_size (n : Nat) : (txt n).size = 9 := rfl
theorem spec_text {n : Nat} (hn : n < 512) {k : Nat} (hk : 12 ≤ k) : spec_ModeText.f k (n : Int) = some (txt n) := at_rounds (spec_ModeText.mono _) hk (spec_txt ⟨n, hn⟩)
theorem spec_text_bad {m : Int} (h : ¬ (0 ≤ m ∧ m ≤ 511)) (k : Nat) : spec_ModeText.f k m = some ⟨#[]⟩ := by
  unfold spec_ModeText.f spec_l6In.f
  by_cases h0 : m ≥ 0
  · have h1 : ¬ m ≤ 511 := by omega
    simp [h0, h1]
  · simp [h0]
theorem impl_txt : ∀ n : Fin 512, impl_ModeText.f 12 (n.val : Int) = some (txt n.val) := by decide +kernel
theorem impl_text {n : Nat} (hn : n < 512) {k : Nat} (hk : 12 ≤ k) : impl_ModeText.f k (n : Int) = some (txt n) := at_rounds (impl_ModeText.mono _) hk (impl_txt ⟨n, hn⟩)
theorem impl_text_bad {m : Int} (h : ¬ (0 ≤ m ∧ m ≤ 511)) (k : Nat) : impl_ModeText.f k m = some ⟨#[]⟩ := by
  unfold impl_ModeText.f impl_in.f
  by_cases h0 : m ≥ 0
  · have h1 : ¬ m ≤ 511 := by omega
    simp [h0, h1]
  · simp [h0]
/-! ### the program reads what was written -/
theorem impl_rd : ∀ n : Fin 512, impl_ModeRead.f 12 (txt n.val) = some ((n.val : Int), true) := by decide +kernel
theorem impl_read {n : Nat} (hn : n < 512) {k : Nat} (hk : 12 ≤ k) : impl_ModeRead.f k (txt n) = some ((n : Int), true) := at_rounds (impl_ModeRead.mono _) hk (impl_rd ⟨n, hn⟩)
/-! ### ModeRead, of the program and of the reference -/
theorem txt_inj {a b : Nat} (ha : a < 512) (hb : b < 512) (h : txt a = txt b) : a = b := by
  have h1 := impl_read ha (k := 12) (by omega)
  rw [h, impl_read hb (by omega)] at h1
  simp at h1
  omega
theorem val_arr : ∀ b0 b1 b2 b3 b4 b5 b6 b7 b8 : Bool, txt (val9 b0 b1 b2 b3 b4 b5 b6 b7 b8).toNat = arr9 b0 b1 b2 b3 b4 b5 b6 b7 b8 ∧ (val9 b0 b1 b2 b3 b4 b5 b6 b7 b8).toNat < 512 := by decide +kernel
abbrev rwx : ByteArray := ⟨#[114, 119, 120, 114, 119, 120, 114, 119, 120]⟩
def Good (s : ByteArray) (i : Int) : Prop := bt s i = bt rwx i ∨ bt s i = 45
theorem good_txt {s : ByteArray} (hs : s.size = 9) (h : ∀ i : Nat, i < 9 → Good s (i : Int)) : ∃ n, n < 512 ∧ s = txt n := by
  obtain ⟨⟨l⟩⟩ := s
  have hl : l.length = 9 := hs
  match l, hl with
  | [c0, c1, c2, c3, c4, c5, c6, c7, c8], _ =>
    have key : ∀ (c d : UInt8), ((c.toNat : Int) = (d.toNat : Int) ∨ (c.toNat : Int) = 45) → c = if decide (c = d) then d else 45 := by
      intro c d h
      by_cases e : c = d
      · simp [e]
      · rcases h with h | h
        · exact absurd (UInt8.toNat_inj.1 (by omega)) e
        · have : c = 45 := UInt8.toNat_inj.1 (by show c.toNat = 45; omega)
          simp [this]
    have g0 := key c0 114 (h 0 (by omega))
    have g1 := key c1 119 (h 1 (by omega))
    have g2 := key c2 120 (h 2 (by omega))
    have g3 := key c3 114 (h 3 (by omega))
    have g4 := key c4 119 (h 4 (by omega))
    have g5 := key c5 120 (h 5 (by omega))
    have g6 := key c6 114 (h 6 (by omega))
    have g7 := key c7 119 (h 7 (by omega))
    have g8 := key c8 120 (h 8 (by omega))
    have hv := val_arr (decide (c0 = 114)) (decide (c1 = 119)) (decide (c2 = 120)) (decide (c3 = 114)) (decide (c4 = 119)) (decide (c5 = 120)) (decide (c6 = 114)) (decide (c7 = 119)) (decide (c8 = 120))
    refine ⟨_, hv.2, ?_⟩
    rw [hv.1]
    unfold arr9
    rw [← g0, ← g1, ← g2, ← g3, ← g4, ← g5, ← g6, ← g7, ← g8]
theorem impl_bad {s : ByteArray} (hs : s.size = 9) (d : Nat) : ∀ (k : Nat) (m : Int) (i : Int), 0 ≤ i → i ≤ 9 → 9 - i = d → d < k → (∃ j : Nat, i ≤ j ∧ j < 9 ∧ ¬ Good s (j : Int)) → impl_ModeRead.l0 k s m i = some (0, false) := by
  induction d with
  | zero => intro k m i h0 h1 hd hk ⟨j, h2, h3, _⟩; omega
  | succ d ih =>
    intro k m i h0 h1 hd hk ⟨j, h2, h3, h4⟩
    obtain ⟨k, rfl⟩ : ∃ m, k = m + 1 := ⟨k - 1, by omega⟩
    have e1 : wrap64 (i + 1) = i + 1 := w64 (by omega) (by omega)
    have next : ∀ m', Good s i → impl_ModeRead.l0 k s m' (i + 1) = some (0, false) := fun m' hg =>
      ih k m' (i + 1) (by omega) (by omega) (by omega) (by omega) ⟨j, by
        rcases Int.lt_or_eq_of_le h2 with h | h
        · omega
        · exact absurd (h ▸ hg) h4, h3, h4⟩
    rw [impl_ModeRead.l0, if_pos (by omega), if_pos h0, if_pos (by omega), e1]
    by_cases c1 : bt s i = bt (⟨#[114, 119, 120, 114, 119, 120, 114, 119, 120]⟩ : ByteArray) i
    · rw [if_pos c1]; exact next _ (Or.inl c1)
    · rw [if_neg c1]
      by_cases c2 : bt s i = 45
      · rw [if_pos c2]; exact next _ (Or.inr c2)
      · rw [if_neg c2]
theorem spec_found {m : Nat} (hm : m < 512) (d : Nat) : ∀ (k : Nat) (i : Nat), i + d = m → d + 13 < k → spec_ModeRead.l0 k (txt m) (i : Int) = some ((m : Int), true) := by
  induction d with
  | zero =>
    intro k i hd hk
    obtain ⟨k, rfl⟩ : ∃ m, k = m + 1 := ⟨k - 1, by omega⟩
    obtain rfl : i = m := by omega
    rw [spec_ModeRead.l0, if_pos (by omega), spec_text hm (by omega)]
    simp only [Option.bind_some, if_true]
  | succ d ih =>
    intro k i hd hk
    obtain ⟨k, rfl⟩ : ∃ m, k = m + 1 := ⟨k - 1, by omega⟩
    have e1 : wrap64 ((i : Int) + 1) = ((i + 1 : Nat) : Int) := by rw [w64 (by omega) (by omega)]; omega
    rw [spec_ModeRead.l0, if_pos (by omega), spec_text (show i < 512 by omega) (by omega)]
    simp only [Option.bind_some]
    rw [if_neg (fun h => by have := txt_inj (by omega) hm (toList_inj.1 h); omega), e1]
    exact ih k (i + 1) (by omega) (by omega)
theorem spec_none {s : ByteArray} (hs : ∀ n, n < 512 → s ≠ txt n) (d : Nat) : ∀ (k : Nat) (i : Nat), i + d = 512 → d + 13 < k → spec_ModeRead.l0 k s (i : Int) = some (0, false) := by
  induction d with
  | zero =>
    intro k i hd hk
    obtain ⟨k, rfl⟩ : ∃ m, k = m + 1 := ⟨k - 1, by omega⟩
    rw [spec_ModeRead.l0, if_neg (by omega)]
  | succ d ih =>
    intro k i hd hk
    obtain ⟨k, rfl⟩ : ∃ m, k = m + 1 := ⟨k - 1, by omega⟩
    have e1 : wrap64 ((i : Int) + 1) = ((i + 1 : Nat) : Int) := by rw [w64 (by omega) (by omega)]; omega
    rw [spec_ModeRead.l0, if_pos (by omega), spec_text (show i < 512 by omega) (by omega)]
    simp only [Option.bind_some]
    rw [if_neg (fun h => hs i (by omega) (toList_inj.1 h).symm), e1]
    exact ih k (i + 1) (by omega) (by omega)
theorem read_ok (s : ByteArray) {k : Nat} (hk : 600 ≤ k) : ∃ x, impl_ModeRead.f k s = some x ∧ spec_ModeRead.f k s = some x ∧ (x.2 = true → ∃ n : Nat, n < 512 ∧ x.1 = (n : Int) ∧ s = txt n) := by
  by_cases h : ∃ n, n < 512 ∧ s = txt n
  · obtain ⟨n, hn, rfl⟩ := h
    exact ⟨((n : Int), true), impl_read hn (by omega), spec_found hn n k 0 (by omega) (by omega), fun _ => ⟨n, hn, rfl, rfl⟩⟩
  · have hne : ∀ n, n < 512 → s ≠ txt n := fun n hn e => h ⟨n, hn, e⟩
    refine ⟨(0, false), ?_, spec_none hne 512 k 0 (by omega) (by omega), fun h => by cases h⟩
    unfold impl_ModeRead.f
    by_cases hs : (s.size : Int) = 9
    · rw [if_pos hs]
      have hs' : s.size = 9 := by omega
      refine impl_bad hs' 9 k 0 0 (by omega) (by omega) (by omega) (by omega) ?_
      apply Classical.byContradiction
      intro hn
      refine h (good_txt hs' (fun i hi => ?_))
      apply Classical.byContradiction
      intro hg
      exact hn ⟨i, by omega, hi, hg⟩
    · rw [if_neg hs]

theorem text_any (m : Int) {k : Nat} (hk : 12 ≤ k) : ∃ t, spec_ModeText.f k m = some t ∧ (t.size = 9 ∨ t.size = 0) := by
  by_cases h : 0 ≤ m ∧ m ≤ 511
  · have := spec_text (n := m.toNat) (by omega) hk
    rw [show ((m.toNat : Nat) : Int) = m by omega] at this
    exact ⟨_, this, Or.inl rfl⟩
  · exact ⟨_, spec_text_bad h k, Or.inr rfl⟩
theorem rd5 {v : Int} (v0 : 0 ≤ v) (v1 : v < 5) : (rdOf ByteArray.empty [(⟨#[114]⟩ : ByteArray), (⟨#[119]⟩ : ByteArray), (⟨#[120]⟩ : ByteArray), (⟨#[45]⟩ : ByteArray), (⟨#[]⟩ : ByteArray)] v).size ≤ 1 := by
  obtain rfl | rfl | rfl | rfl | rfl : v = 0 ∨ v = 1 ∨ v = 2 ∨ v = 3 ∨ v = 4 := by omega
  all_goals decide
theorem draw_ok {l0 : List Int} (hwf : ∀ x ∈ l0, (Lit.int .u8 x).wf = true) {k : Nat} (hk : 20 ≤ k) : ∃ s, spec_DrawModeRead.f k l0 = some s := by
  obtain ⟨k, rfl⟩ : ∃ m, k = m + 1 := ⟨k - 1, by omega⟩
  obtain ⟨s, ho, hb, hs⟩ := open_ok (bytes_of_wf hwf)
  obtain ⟨m, p, hm, p0, p1⟩ := mode_ok hb hs (p := 0) (by omega) (by omega) (k := k + 1) (by omega)
  obtain ⟨t, ht, hts⟩ := text_any m (k := k + 1) (by omega)
  obtain ⟨v, hv, v0, v1, _⟩ := pick_ok hb hs (p := p) (by omega) (by omega) 3 (k := k + 1) (by omega)
  unfold spec_DrawModeRead.f
  rw [ho]; simp only [Option.bind_some]
  rw [hm]; simp only [Option.bind_some]
  rw [ht]; simp only [Option.bind_some]
  rw [hv]; simp only [Option.bind_some]
  by_cases c : v = 0
  · rw [if_pos c, spec_DrawModeRead.j0]
    by_cases c9 : ((t.size : Int) == 9) = true
    · have h9 : (t.size : Int) = 9 := by simpa using c9
      rw [if_pos c9]
      obtain ⟨a, ha, a0, a1, _⟩ := pick_ok hb hs (p := p + 1) (by omega) (by omega) 9 (k := k) (by omega)
      obtain ⟨b, hb', b0, b1, _⟩ := pick_ok hb hs (p := p + 1 + 1) (by omega) (by omega) 5 (k := k) (by omega)
      have a1 := a1 (by omega)
      have b1 := b1 (by omega)
      have hr := rd5 b0 b1
      have e1 : wrap64 (a + 1) = a + 1 := w64 (by omega) (by omega)
      rw [ha]; simp only [Option.bind_some]
      rw [if_pos a0, if_pos (by omega), hb']; simp only [Option.bind_some]
      rw [if_pos b0, if_pos (by simpa using b1), e1]
      generalize rdOf ByteArray.empty [(⟨#[114]⟩ : ByteArray), (⟨#[119]⟩ : ByteArray), (⟨#[120]⟩ : ByteArray), (⟨#[45]⟩ : ByteArray), (⟨#[]⟩ : ByteArray)] b = z at hr ⊢
      rw [if_pos (by rw [ByteArray.size_extract]; omega), if_pos (by omega), if_pos (by omega), if_pos (by rw [ByteArray.size_append, ByteArray.size_extract, ByteArray.size_extract]; omega)]
      exact ⟨_, rfl⟩
    · rw [if_neg c9]; exact ⟨_, rfl⟩
  · rw [if_neg c, spec_DrawModeRead.j0, if_neg (by decide)]; exact ⟨_, rfl⟩

theorem FnModeRead : BdFnModeRead.Pure := by
  intro l0 ⟨_, hwf⟩
  refine ⟨700, ?_⟩
  unfold laws_FnModeRead.f
  by_cases hl : (l0.length : Int) > 1048576
  · rw [if_pos hl]
  · rw [if_neg hl]
    obtain ⟨s, hd⟩ := draw_ok hwf (k := 700) (by omega)
    obtain ⟨⟨m, b⟩, h1, h2, h3⟩ := read_ok s (k := 700) (by omega)
    rw [hd]; simp only [Option.bind_some]
    rw [h1]; simp only [Option.bind_some]
    rw [h2]; simp only [Option.bind_some, beq_self_eq_true, if_true]
    cases b with
    | false => simp
    | true =>
      obtain ⟨n, hn, e1, e2⟩ := h3 rfl
      simp only at e1
      subst e1 e2
      rw [if_pos rfl, impl_text hn (by omega)]
      simp

end Go.Proofs.Ytadbeajdccfceaa.Pure
