/- The program's ModeRead and the reference's answer alike at every text. -/
import Derived.Test.YtpholngikeekdaaBdFnExactModeRead
import Derived.WideShapes
import Derived.IntWalk
import Derived.OpenShut
namespace Go.Proofs.Ytpholngikeekdaa.Pure
open Go.RowKit Go.Proofs.Ytpholngikeekdaa.PFnExactModeRead Go.Proofs.YtpholngikeekdaaW.PrintWords Go.Proofs.YtpholngikeekdaaW.PrintLast

/-! ### small facts on numbers, bytes and rounds -/
theorem w64 {n : Int} (h1 : -9223372036854775808 ≤ n) (h2 : n ≤ 9223372036854775807) : wrap64 n = n := by unfold wrap64; omega
theorem w64_range (n : Int) : -9223372036854775808 ≤ wrap64 n ∧ wrap64 n ≤ 9223372036854775807 := by unfold wrap64; omega
theorem xor_ok {x y : Int} (hx : 0 ≤ x) (hx2 : x < 4611686018427387904) (hy : 0 ≤ y) (hy2 : y < 4611686018427387904) : 0 ≤ Go.bits .xor .i64 x y ∧ Go.bits .xor .i64 x y < 4611686018427387904 := by
  have h1 : (BitVec.ofInt 64 x ^^^ BitVec.ofInt 64 y).toNat < 2 ^ 62 := by
    rw [BitVec.toNat_xor]
    apply Nat.xor_lt_two_pow
    · rw [BitVec.toNat_ofInt]; omega
    · rw [BitVec.toNat_ofInt]; omega
  have h2 : Go.bits .xor .i64 x y = ((BitVec.ofInt 64 x ^^^ BitVec.ofInt 64 y).toNat : Int) := by
    show IntKind.wrap .i64 ((BitVec.ofInt 64 x ^^^ BitVec.ofInt 64 y).toNat : Int) = _
    generalize (BitVec.ofInt 64 x ^^^ BitVec.ofInt 64 y).toNat = m at h1
    exact IntWalk.i64_in _ (by omega)
  rw [h2]; omega
theorem tmod_ok {x n : Int} (hx : 0 ≤ x) (hn : 1 ≤ n) : 0 ≤ Int.tmod x n ∧ Int.tmod x n < n := by
  rw [Int.tmod_eq_emod_of_nonneg hx]
  exact ⟨Int.emod_nonneg _ (by omega), Int.emod_lt_of_pos _ (by omega)⟩
theorem tdiv_ok {x n : Int} (hx : 0 ≤ x) (hn : 1 ≤ n) : 0 ≤ Int.tdiv x n ∧ Int.tdiv x n ≤ x := by
  rw [Int.tdiv_eq_ediv_of_nonneg hx]
  exact ⟨Int.ediv_nonneg hx (by omega), Int.ediv_le_self _ hx⟩
theorem rd_mem {xs : List Int} {i : Int} (h0 : 0 ≤ i) (h1 : i < (xs.length : Int)) : rd xs i ∈ xs := by
  have hl : i.toNat < xs.length := by omega
  unfold rd
  rw [List.getD_eq_getElem?_getD, List.getElem?_eq_getElem hl]
  exact List.getElem_mem hl
def Bytes (s : List Int) : Prop := ∀ x ∈ s, 0 ≤ x ∧ x ≤ 255
theorem bytes_of_wf {s : List Int} (h : ∀ x ∈ s, (Lit.int .u8 x).wf = true) : Bytes s := fun x hx => Go.bounds_u8 (h x hx)
theorem bytes_rd {s : List Int} (h : Bytes s) {i : Int} (h0 : 0 ≤ i) (h1 : i < (s.length : Int)) : 0 ≤ rd s i ∧ rd s i ≤ 255 := h _ (rd_mem h0 h1)
theorem toList_inj {a b : ByteArray} : a.toList = b.toList ↔ a = b := by
  rw [ByteArray.toList_eq, ByteArray.toList_eq]
  constructor
  · intro h; exact Go.WideShapes.bytes_inj h
  · rintro rfl; rfl
theorem toList_nil {a : ByteArray} : a.toList = ([] : List UInt8) ↔ a.size = 0 := by
  rw [ByteArray.toList_eq, List.eq_nil_iff_length_eq_zero, data_length]
/-! ### the 512 texts of modes -/
def val9 (b0 b1 b2 b3 b4 b5 b6 b7 b8 : Bool) : Int := ((b0.toNat * 256 + b1.toNat * 128 + b2.toNat * 64 + b3.toNat * 32 + b4.toNat * 16 + b5.toNat * 8 + b6.toNat * 4 + b7.toNat * 2 + b8.toNat : Nat) : Int)
def arr9 (b0 b1 b2 b3 b4 b5 b6 b7 b8 : Bool) : ByteArray := ⟨#[if b0 then 114 else 45, if b1 then 119 else 45, if b2 then 120 else 45, if b3 then 114 else 45, if b4 then 119 else 45, if b5 then 120 else 45, if b6 then 114 else 45, if b7 then 119 else 45, if b8 then 120 else 45]⟩
def txt (n : Nat) : ByteArray := arr9 (n.testBit 8) (n.testBit 7) (n.testBit 6) (n.testBit 5) (n.testBit 4) (n.testBit 3) (n.testBit 2) (n.testBit 1) (n.testBit 0)
theorem spec_txt : ∀ n : Fin 512, spec_ModeText.f 12 (n.val : Int) = some (txt n.val) := by decide +kernel
theorem txt_size (n : Nat) : (txt n).size = 9 := rfl
theorem spec_text {n : Nat} (hn : n < 512) {k : Nat} (hk : 12 ≤ k) : spec_ModeText.f k (n : Int) = some (txt n) := at_rounds (spec_ModeText.mono _) hk (spec_txt ⟨n, hn⟩)
theorem spec_text_bad {m : Int} (h : ¬ (0 ≤ m ∧ m ≤ 511)) (k : Nat) : spec_ModeText.f k m = some ⟨#[]⟩ := by
  unfold spec_ModeText.f spec_l6In.f
  by_cases h0 : m ≥ 0
  · have h1 : ¬ m ≤ 511 := by omega
    simp [h0, h1]
  · simp [h0]
/-! ### the program reads what was written -/
theorem impl_rd : ∀ n : Fin 512, impl_ModeRead.f 12 (txt n.val) = some ((n.val : Int), true) := by decide +kernel
theorem impl_read {n : Nat} (hn : n < 512) {k : Nat} (hk : 12 ≤ k) : impl_ModeRead.f k (txt n) = some ((n : Int), true) := at_rounds (impl_ModeRead.mono _) hk (impl_rd ⟨n, hn⟩)
/-! ### ModeRead, of the program and of the reference -/
theorem txt_inj {a b : Nat} (ha : a < 512) (hb : b < 512) (h : txt a = txt b) : a = b := by
  have h1 := impl_read ha (k := 12) (by omega)
  rw [h, impl_read hb (by omega)] at h1
  simp at h1
  omega
theorem val_arr : ∀ b0 b1 b2 b3 b4 b5 b6 b7 b8 : Bool, txt (val9 b0 b1 b2 b3 b4 b5 b6 b7 b8).toNat = arr9 b0 b1 b2 b3 b4 b5 b6 b7 b8 ∧ (val9 b0 b1 b2 b3 b4 b5 b6 b7 b8).toNat < 512 := by decide +kernel
abbrev rwx : ByteArray := ⟨#[114, 119, 120, 114, 119, 120, 114, 119, 120]⟩
def Good (s : ByteArray) (i : Int) : Prop := bt s i = bt rwx i ∨ bt s i = 45
theorem good_txt {s : ByteArray} (hs : s.size = 9) (h : ∀ i : Nat, i < 9 → Good s (i : Int)) : ∃ n, n < 512 ∧ s = txt n := by
  obtain ⟨⟨l⟩⟩ := s
  have hl : l.length = 9 := hs
  match l, hl with
  | [c0, c1, c2, c3, c4, c5, c6, c7, c8], _ =>
    have key : ∀ (c d : UInt8), ((c.toNat : Int) = (d.toNat : Int) ∨ (c.toNat : Int) = 45) → c = if decide (c = d) then d else 45 := by
      intro c d h
      by_cases e : c = d
      · simp [e]
      · rcases h with h | h
        · exact absurd (UInt8.toNat_inj.1 (by omega)) e
        · have : c = 45 := UInt8.toNat_inj.1 (by show c.toNat = 45; omega)
          simp [this]
    have g0 := key c0 114 (h 0 (by omega))
    have g1 := key c1 119 (h 1 (by omega))
    have g2 := key c2 120 (h 2 (by omega))
    have g3 := key c3 114 (h 3 (by omega))
    have g4 := key c4 119 (h 4 (by omega))
    have g5 := key c5 120 (h 5 (by omega))
    have g6 := key c6 114 (h 6 (by omega))
    have g7 := key c7 119 (h 7 (by omega))
    have g8 := key c8 120 (h 8 (by omega))
    have hv := val_arr (decide (c0 = 114)) (decide (c1 = 119)) (decide (c2 = 120)) (decide (c3 = 114)) (decide (c4 = 119)) (decide (c5 = 120)) (decide (c6 = 114)) (decide (c7 = 119)) (decide (c8 = 120))
    refine ⟨_, hv.2, ?_⟩
    rw [hv.1]
    unfold arr9
    rw [← g0, ← g1, ← g2, ← g3, ← g4, ← g5, ← g6, ← g7, ← g8]
theorem impl_bad {s : ByteArray} (hs : s.size = 9) (d : Nat) : ∀ (k : Nat) (m : Int) (i : Int), 0 ≤ i → i ≤ 9 → 9 - i = d → d < k → (∃ j : Nat, i ≤ j ∧ j < 9 ∧ ¬ Good s (j : Int)) → impl_ModeRead.l0 k s m i = some (0, false) := by
  induction d with
  | zero => intro k m i h0 h1 hd hk ⟨j, h2, h3, _⟩; omega
  | succ d ih =>
    intro k m i h0 h1 hd hk ⟨j, h2, h3, h4⟩
    obtain ⟨k, rfl⟩ : ∃ m, k = m + 1 := ⟨k - 1, by omega⟩
    have e1 : wrap64 (i + 1) = i + 1 := w64 (by omega) (by omega)
    have next : ∀ m', Good s i → impl_ModeRead.l0 k s m' (i + 1) = some (0, false) := fun m' hg =>
      ih k m' (i + 1) (by omega) (by omega) (by omega) (by omega) ⟨j, by
        rcases Int.lt_or_eq_of_le h2 with h | h
        · omega
        · exact absurd (h ▸ hg) h4, h3, h4⟩
    rw [impl_ModeRead.l0, if_pos (by omega), if_pos h0, if_pos (by omega), e1]
    by_cases c1 : bt s i = bt (⟨#[114, 119, 120, 114, 119, 120, 114, 119, 120]⟩ : ByteArray) i
    · rw [if_pos c1]; exact next _ (Or.inl c1)
    · rw [if_neg c1]
      by_cases c2 : bt s i = 45
      · rw [if_pos c2]; exact next _ (Or.inr c2)
      · rw [if_neg c2]
theorem spec_found {m : Nat} (hm : m < 512) (d : Nat) : ∀ (k : Nat) (i : Nat), i + d = m → d + 13 < k → spec_ModeRead.l0 k (txt m) (i : Int) = some ((m : Int), true) := by
  induction d with
  | zero =>
    intro k i hd hk
    obtain ⟨k, rfl⟩ : ∃ m, k = m + 1 := ⟨k - 1, by omega⟩
    obtain rfl : i = m := by omega
    rw [spec_ModeRead.l0, if_pos (by omega), spec_text hm (by omega)]
    simp only [Option.bind_some, if_true]
  | succ d ih =>
    intro k i hd hk
    obtain ⟨k, rfl⟩ : ∃ m, k = m + 1 := ⟨k - 1, by omega⟩
    have e1 : wrap64 ((i : Int) + 1) = ((i + 1 : Nat) : Int) := by rw [w64 (by omega) (by omega)]; omega
    rw [spec_ModeRead.l0, if_pos (by omega), spec_text (show i < 512 by omega) (by omega)]
    simp only [Option.bind_some]
    rw [if_neg (fun h => by have := txt_inj (by omega) hm (toList_inj.1 h); omega), e1]
    exact ih k (i + 1) (by omega) (by omega)
theorem spec_none {s : ByteArray} (hs : ∀ n, n < 512 → s ≠ txt n) (d : Nat) : ∀ (k : Nat) (i : Nat), i + d = 512 → d + 13 < k → spec_ModeRead.l0 k s (i : Int) = some (0, false) := by
  induction d with
  | zero =>
    intro k i hd hk
    obtain ⟨k, rfl⟩ : ∃ m, k = m + 1 := ⟨k - 1, by omega⟩
    rw [spec_ModeRead.l0, if_neg (by omega)]
  | succ d ih =>
    intro k i hd hk
    obtain ⟨k, rfl⟩ : ∃ m, k = m + 1 := ⟨k - 1, by omega⟩
    have e1 : wrap64 ((i : Int) + 1) = ((i + 1 : Nat) : Int) := by rw [w64 (by omega) (by omega)]; omega
    rw [spec_ModeRead.l0, if_pos (by omega), spec_text (show i < 512 by omega) (by omega)]
    simp only [Option.bind_some]
    rw [if_neg (fun h => hs i (by omega) (toList_inj.1 h).symm), e1]
    exact ih k (i + 1) (by omega) (by omega)
theorem read_ok (s : ByteArray) {k : Nat} (hk : 600 ≤ k) : ∃ x, impl_ModeRead.f k s = some x ∧ spec_ModeRead.f k s = some x ∧ (x.2 = true → ∃ n : Nat, n < 512 ∧ x.1 = (n : Int) ∧ s = txt n) := by
  by_cases h : ∃ n, n < 512 ∧ s = txt n
  · obtain ⟨n, hn, rfl⟩ := h
    exact ⟨((n : Int), true), impl_read hn (by omega), spec_found hn n k 0 (by omega) (by omega), fun _ => ⟨n, hn, rfl, rfl⟩⟩
  · have hne : ∀ n, n < 512 → s ≠ txt n := fun n hn e => h ⟨n, hn, e⟩
    refine ⟨(0, false), ?_, spec_none hne 512 k 0 (by omega) (by omega), fun h => by cases h⟩
    unfold impl_ModeRead.f
    by_cases hs : (s.size : Int) = 9
    · rw [if_pos hs]
      have hs' : s.size = 9 := by omega
      refine impl_bad hs' 9 k 0 0 (by omega) (by omega) (by omega) (by omega) ?_
      apply Classical.byContradiction
      intro hn
      refine h (good_txt hs' (fun i hi => ?_))
      apply Classical.byContradiction
      intro hg
      exact hn ⟨i, by omega, hi, hg⟩
    · rw [if_neg hs]

theorem FnExactModeRead : BdFnExactModeRead.Pure := by
  intro s _
  refine ⟨600, ?_⟩
  obtain ⟨⟨m, b⟩, h1, h2, _⟩ := read_ok s (k := 600) (by omega)
  unfold laws_FnExactModeRead.f
  by_cases hl : (s.size : Int) > 1048576
  · rw [if_pos hl]
  · rw [if_neg hl, h2]; simp only [Option.bind_some]
    rw [h1]; simp

end Go.Proofs.Ytpholngikeekdaa.Pure
