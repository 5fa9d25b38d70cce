/- PagesOk of the program and of the reference answer alike at every drawn pages, and room is told just where the pages are right. -/
import Derived.Test.YtahncndhlpdegaaBdFnPagesOk
import Derived.WideShapes
import Derived.IntWalk
import Derived.OpenShut
namespace Go.Proofs.Ytahncndhlpdegaa.Pure
open Go.RowKit Go.Proofs.Ytahncndhlpdegaa.PFnPagesOk Go.Proofs.YtahncndhlpdegaaW.PrintWords Go.Proofs.YtahncndhlpdegaaW.PrintLast
/-! ### small facts on numbers, bytes and rounds -/
theorem w64 {n : Int} (h1 : -9223372036854775808 ≤ n) (h2 : n ≤ 9223372036854775807) : wrap64 n = n := by unfold wrap64; omega
theorem w64_range (n : Int) : -9223372036854775808 ≤ wrap64 n ∧ wrap64 n ≤ 9223372036854775807 := by unfold wrap64; omega
theorem xor_ok {x y : Int} (hx : 0 ≤ x) (hx2 : x < 4611686018427387904) (hy : 0 ≤ y) (hy2 : y < 4611686018427387904) : 0 ≤ Go.bits .xor .i64 x y ∧ Go.bits .xor .i64 x y < 4611686018427387904 := by
  have h1 : (BitVec.ofInt 64 x ^^^ BitVec.ofInt 64 y).toNat < 2 ^ 62 := by
    rw [BitVec.toNat_xor]
    apply Nat.xor_lt_two_pow
    · rw [BitVec.toNat_ofInt]; omega
    · rw [BitVec.toNat_ofInt]; omega
  have h2 : Go.bits .xor .i64 x y = ((BitVec.ofInt 64 x ^^^ BitVec.ofInt 64 y).toNat : Int) := by
    show IntKind.wrap .i64 ((BitVec.ofInt 64 x ^^^ BitVec.ofInt 64 y).toNat : Int) = _
    generalize (BitVec.ofInt 64 x ^^^ BitVec.ofInt 64 y).toNat = m at h1
    exact IntWalk.i64_in _ (by omega)
  rw [h2]; omega
theorem tmod_ok {x n : Int} (hx : 0 ≤ x) (hn : 1 ≤ n) : 0 ≤ Int.tmod x n ∧ Int.tmod x n < n := by
  rw [Int.tmod_eq_emod_of_nonneg hx]
  exact ⟨Int.emod_nonneg _ (by omega), Int.emod_lt_of_pos _ (by omega)⟩
theorem tdiv_ok {x n : Int} (hx : 0 ≤ x) (hn : 1 ≤ n) : 0 ≤ Int.tdiv x n ∧ Int.tdiv x n ≤ x := by
  rw [Int.tdiv_eq_ediv_of_nonneg hx]
  exact ⟨Int.ediv_nonneg hx (by omega), Int.ediv_le_self _ hx⟩
theorem rd_mem {xs : List Int} {i : Int} (h0 : 0 ≤ i) (h1 : i < (xs.length : Int)) : rd xs i ∈ xs := by
  have hl : i.toNat < xs.length := by omega
  unfold rd
  rw [List.getD_eq_getElem?_getD, List.getElem?_eq_getElem hl]
  exact List.getElem_mem hl
def Bytes (s : List Int) : Prop := ∀ x ∈ s, 0 ≤ x ∧ x ≤ 255
theorem bytes_of_wf {s : List Int} (h : ∀ x ∈ s, (Lit.int .u8 x).wf = true) : Bytes s := fun x hx => Go.bounds_u8 (h x hx)
theorem bytes_rd {s : List Int} (h : Bytes s) {i : Int} (h0 : 0 ≤ i) (h1 : i < (s.length : Int)) : 0 ≤ rd s i ∧ rd s i ≤ 255 := h _ (rd_mem h0 h1)
theorem toList_inj {a b : ByteArray} : a.toList = b.toList ↔ a = b := by
  rw [ByteArray.toList_eq, ByteArray.toList_eq]
  constructor
  · intro h; exact Go.WideShapes.bytes_inj h
  · rintro rfl; rfl
theorem toList_nil {a : ByteArray} : a.toList = ([] : List UInt8) ↔ a.size = 0 := by
  rw [ByteArray.toList_eq, List.eq_nil_iff_length_eq_zero, data_length]
/-! ### the reader of a code: l6Open, pick -/
theorem open_ok {l0 : List Int} (hb : Bytes l0) : ∃ s, spec_l6Open.f l0 = some (s, 0) ∧ Bytes s ∧ s.length ≤ 2000 := by
  unfold spec_l6Open.f
  by_cases h : (l0.length : Int) > 2000
  · rw [if_pos h, if_pos (by omega)]
    exact ⟨_, rfl, fun x hx => hb x (List.mem_of_mem_take hx), by rw [List.length_take]; omega⟩
  · rw [if_neg h]
    exact ⟨_, rfl, hb, by omega⟩
theorem pick_ok {s : List Int} (hb : Bytes s) (hs : s.length ≤ 2000) {p : Int} (hp0 : 0 ≤ p) (hp1 : p ≤ 1000000000) (n : Int) {k : Nat} (hk : 1 ≤ k) :
    ∃ v, spec_l6Rd_pick.f k s p n = some (v, p + 1) ∧ 0 ≤ v ∧ (1 ≤ n → v < n) ∧ (n < 1 → v = 0) := by
  obtain ⟨k, rfl⟩ : ∃ m, k = m + 1 := ⟨k - 1, by omega⟩
  have e1 : wrap64 (p + 1) = p + 1 := w64 (by omega) (by omega)
  have e2 : wrap64 (p + 1 - 1) = p := by rw [show p + 1 - 1 = p by omega]; exact w64 (by omega) (by omega)
  unfold spec_l6Rd_pick.f
  by_cases hn : n < 1
  · rw [if_pos hn]; simp only [spec_l6Rd_pick.j0, if_true, e1]
    exact ⟨0, rfl, by omega, by omega, fun _ => rfl⟩
  · rw [if_neg hn]; simp only [spec_l6Rd_pick.j0, e1, e2]
    by_cases h0 : (s.length : Int) = 0
    · have : ((s.length : Int) == 0) = true := by simp [h0]
      rw [this, if_pos rfl]
      exact ⟨0, rfl, by omega, by omega, fun _ => rfl⟩
    · have : ((s.length : Int) == 0) = false := by simpa using h0
      rw [this, if_neg (by decide)]
      by_cases hl : p < (s.length : Int)
      · rw [if_pos hl, if_pos hp0, if_neg (by omega)]
        have hr := bytes_rd hb hp0 hl
        rw [w64 (n := rd s p) (by omega) (by omega)]
        have ht := tmod_ok hr.1 (show 1 ≤ n by omega)
        exact ⟨_, rfl, ht.1, fun _ => ht.2, by omega⟩
      · rw [if_neg hl, if_neg h0]
        have a1 := tmod_ok (x := p) (n := (s.length : Int)) hp0 (by omega)
        rw [if_pos a1.1, if_pos a1.2]
        have e3 : wrap64 (p * 7) = p * 7 := w64 (by omega) (by omega)
        have e4 : wrap64 (p * 7 + 3) = p * 7 + 3 := w64 (by omega) (by omega)
        simp only [e3, e4]
        have a2 := tmod_ok (x := p * 7 + 3) (n := (s.length : Int)) (by omega) (by omega)
        rw [if_pos a2.1, if_pos a2.2, if_neg (by omega)]
        have b1 := bytes_rd hb a1.1 a1.2
        have b2 := bytes_rd hb a2.1 a2.2
        have a3 := tdiv_ok (x := p) (n := (s.length : Int)) hp0 (by omega)
        generalize rd s (p.tmod (s.length : Int)) = x1 at b1 ⊢
        generalize rd s ((p * 7 + 3).tmod (s.length : Int)) = x2 at b2 ⊢
        generalize p.tdiv (s.length : Int) = x3 at a3 ⊢
        have c1 : wrap64 x1 = x1 := w64 (by omega) (by omega)
        have c2 : wrap64 x2 = x2 := w64 (by omega) (by omega)
        have c3 : wrap64 x3 = x3 := w64 (by omega) (by omega)
        have c4 : wrap64 (x1 * 131) = x1 * 131 := w64 (by omega) (by omega)
        have c5 : wrap64 (x2 * 1117) = x2 * 1117 := w64 (by omega) (by omega)
        have c6 : wrap64 (x1 * 131 + x2 * 1117) = x1 * 131 + x2 * 1117 := w64 (by omega) (by omega)
        have c7 : wrap64 (p * 29) = p * 29 := w64 (by omega) (by omega)
        have c8 : wrap64 (x1 * 131 + x2 * 1117 + p * 29) = x1 * 131 + x2 * 1117 + p * 29 := w64 (by omega) (by omega)
        have c9 : wrap64 (x3 * 53) = x3 * 53 := w64 (by omega) (by omega)
        have c10 : wrap64 (x1 * 131 + x2 * 1117 + p * 29 + x3 * 53) = x1 * 131 + x2 * 1117 + p * 29 + x3 * 53 := w64 (by omega) (by omega)
        simp only [c1, c2, c3, c4, c5, c6, c7, c8, c9, c10]
        have a4 := tdiv_ok (x := x1 * 131 + x2 * 1117 + p * 29 + x3 * 53) (n := 64) (by omega) (by omega)
        have c11 : wrap64 ((x1 * 131 + x2 * 1117 + p * 29 + x3 * 53).tdiv 64) = (x1 * 131 + x2 * 1117 + p * 29 + x3 * 53).tdiv 64 := w64 (by omega) (by omega)
        rw [c11]
        have a5 := xor_ok (x := x1 * 131 + x2 * 1117 + p * 29 + x3 * 53) (y := (x1 * 131 + x2 * 1117 + p * 29 + x3 * 53).tdiv 64) (by omega) (by omega) a4.1 (by omega)
        have a6 := tmod_ok a5.1 (show 1 ≤ n by omega)
        exact ⟨_, rfl, a6.1, fun _ => a6.2, by omega⟩
/-! ### rows that are copied, and rows that are held against themselves -/
theorem to_gen {β : Type} {l0 : Nat → List β → Int → Option (List β)} (xs : List β) (K : Nat)
    (hstep : ∀ (k : Nat) (acc : List β) (i : Nat) (hi : i < xs.length), K ≤ k → acc.length = xs.length → l0 (k + 1) acc (i : Int) = l0 k (acc.set i (xs[i]'hi)) ((i + 1 : Nat) : Int))
    (hend : ∀ (k : Nat) (acc : List β), l0 (k + 1) acc (xs.length : Int) = some acc) :
    ∀ (k : Nat) (acc : List β), acc.length = xs.length → xs.length + K < k → l0 k acc 0 = some xs := by
  have key : ∀ (d : Nat) (k : Nat) (acc : List β) (i : Nat), i + d = xs.length → d + K < k → acc.length = xs.length → (∀ j, j < i → acc[j]? = xs[j]?) → l0 k acc (i : Int) = some xs := by
    intro d
    induction d with
    | zero =>
      intro k acc i hd hk hl hj
      obtain ⟨k, rfl⟩ : ∃ m, k = m + 1 := ⟨k - 1, by omega⟩
      obtain rfl : i = xs.length := by omega
      rw [hend]
      congr 1
      apply List.ext_getElem?
      intro j
      by_cases h : j < xs.length
      · exact hj j h
      · rw [List.getElem?_eq_none (by omega), List.getElem?_eq_none (by omega)]
    | succ d ih =>
      intro k acc i hd hk hl hj
      obtain ⟨k, rfl⟩ : ∃ m, k = m + 1 := ⟨k - 1, by omega⟩
      have hi : i < xs.length := by omega
      rw [hstep k acc i hi (by omega) hl]
      refine ih k _ (i + 1) (by omega) (by omega) (by rw [List.length_set]; exact hl) (fun j hjl => ?_)
      by_cases e : j = i
      · subst e
        rw [List.getElem?_set_self (by omega), List.getElem?_eq_getElem hi]
      · rw [List.getElem?_set_ne (by omega)]
        exact hj j (by omega)
  intro k acc hl hk
  exact key xs.length k acc 0 (by omega) (by omega) hl (fun j hj => absurd hj (Nat.not_lt_zero j))
theorem eq_gen {l0 : Nat → Int → Option Bool} (n : Nat) (K : Nat)
    (hstep : ∀ (k : Nat) (i : Nat), i < n → K ≤ k → l0 (k + 1) (i : Int) = l0 k ((i + 1 : Nat) : Int)) (hend : ∀ (k : Nat), l0 (k + 1) (n : Int) = some true) :
    ∀ (k : Nat), n + K < k → l0 k 0 = some true := by
  have key : ∀ (d : Nat) (k : Nat) (i : Nat), i + d = n → d + K < k → l0 k (i : Int) = some true := by
    intro d
    induction d with
    | zero =>
      intro k i hd hk
      obtain ⟨k, rfl⟩ : ∃ m, k = m + 1 := ⟨k - 1, by omega⟩
      obtain rfl : i = n := by omega
      exact hend k
    | succ d ih =>
      intro k i hd hk
      obtain ⟨k, rfl⟩ : ∃ m, k = m + 1 := ⟨k - 1, by omega⟩
      rw [hstep k i (by omega) (by omega)]
      exact ih k (i + 1) (by omega) (by omega)
  intro k hk
  exact key n k 0 (by omega) (by omega)
theorem rd_get {l : List Int} {i : Nat} (h : i < l.length) : rd l (i : Int) = l[i] := by simp [rd, h]
theorem rdOf_get {α : Type} {z : α} {l : List α} {i : Nat} (h : i < l.length) : rdOf z l (i : Int) = l[i] := by simp [rdOf, h]
theorem wsucc {i n : Nat} (h : i < n) (hn : n ≤ 4611686018427387904) : wrap64 ((i : Int) + 1) = ((i + 1 : Nat) : Int) := by rw [w64 (by omega) (by omega)]; omega
/-! ### PagesOk, of the program and of the reference -/
theorem pin_eq (a b c : Int) : impl_in.f a b c = some (decide (b ≤ a ∧ a ≤ c)) := by
  unfold impl_in.f
  by_cases h : a ≥ b <;> simp [h]
theorem pinS_eq (a b c : Int) : spec_l6In.f a b c = some (decide (b ≤ a ∧ a ≤ c)) := by
  unfold spec_l6In.f
  by_cases h : a ≥ b <;> simp [h]
def pgStep (t : List ByteArray) (r : List Int) (i : Nat) : Bool := decide (0 ≤ rd r (i : Int) ∧ rd r (i : Int) ≤ 99) && decide (((rdOf ByteArray.empty t (i : Int)).size : Int) = if rd r (i : Int) = 0 then 0 else 4)
def pgFrom (t : List ByteArray) (r : List Int) (i : Nat) : Nat → Bool
  | 0 => true
  | d + 1 => pgStep t r i && pgFrom t r (i + 1) d
def pgFine (t : List ByteArray) (r : List Int) : Bool := decide (t.length = r.length) && (decide (1 ≤ t.length ∧ t.length ≤ 12) && pgFrom t r 0 t.length)
theorem pg_impl (t : List ByteArray) (r : List Int) (hl : t.length = r.length) (hn : r.length ≤ 12) (d : Nat) : ∀ (k i : Nat), i + d = r.length → d < k → impl_PagesOk.l0 k r (r.length : Int) (i : Int) t r = some (pgFrom t r i d) := by
  induction d with
  | zero =>
    intro k i hi hk
    obtain ⟨k, rfl⟩ : ∃ m, k = m + 1 := ⟨k - 1, by omega⟩
    rw [impl_PagesOk.l0, if_neg (by omega)]; rfl
  | succ d ih =>
    intro k i hi hk
    obtain ⟨k, rfl⟩ : ∃ m, k = m + 1 := ⟨k - 1, by omega⟩
    have e := ih k (i + 1) (by omega) (by omega)
    have w : wrap64 ((i : Int) + 1) = ((i + 1 : Nat) : Int) := wsucc (show i < r.length by omega) (by omega)
    have hlt : ((i : Int) < (t.length : Int)) = True := eq_true (by omega)
    rw [impl_PagesOk.l0, if_pos (by omega), if_pos (by omega), if_pos (by omega), w, e, pin_eq]
    simp only [hlt, if_true, Option.bind_some, pgFrom, pgStep]
    generalize pgFrom t r (i + 1) d = z
    generalize ((rdOf ByteArray.empty t (i : Int)).size : Int) = s
    generalize rd r (i : Int) = x
    by_cases x0 : x = 0
    · by_cases s0 : s = 0 <;> simp [x0, s0]
    · by_cases c : 0 ≤ x ∧ x ≤ 99
      · by_cases s4 : s = 4
        · simp [x0, c, s4]
        · simp [x0, c, s4]
      · rw [if_neg x0]
        simp [c]
theorem pg_spec (t : List ByteArray) (r : List Int) (hl : t.length = r.length) (hn : r.length ≤ 12) (d : Nat) : ∀ (k i : Nat), i + d = t.length → d < k → spec_PagesOk.l0 k (i : Int) t r = some (pgFrom t r i d) := by
  induction d with
  | zero =>
    intro k i hi hk
    obtain ⟨k, rfl⟩ : ∃ m, k = m + 1 := ⟨k - 1, by omega⟩
    rw [spec_PagesOk.l0, if_neg (by omega)]; rfl
  | succ d ih =>
    intro k i hi hk
    obtain ⟨k, rfl⟩ : ∃ m, k = m + 1 := ⟨k - 1, by omega⟩
    have e := ih k (i + 1) (by omega) (by omega)
    have w : wrap64 ((i : Int) + 1) = ((i + 1 : Nat) : Int) := wsucc (show i < r.length by omega) (by omega)
    rw [spec_PagesOk.l0, if_pos (by omega), if_pos (by omega), if_pos (by omega), w, e, pinS_eq]
    simp only [Option.bind_some, pgFrom, pgStep]
    generalize pgFrom t r (i + 1) d = z
    generalize ((rdOf ByteArray.empty t (i : Int)).size : Int) = s
    generalize rd r (i : Int) = x
    by_cases x0 : x = 0
    · by_cases s0 : s = 0 <;> simp [x0, s0]
    · by_cases c : 0 ≤ x ∧ x ≤ 99
      · by_cases s4 : s = 4
        · simp [x0, c, s4]
        · simp [x0, c, s4]
      · rw [if_neg x0]
        simp [c]
theorem pgok_impl (t : List ByteArray) (r : List Int) {k : Nat} (hk : 15 ≤ k) : impl_PagesOk.f k t r = some (pgFine t r) := by
  obtain ⟨k, rfl⟩ : ∃ m, k = m + 1 := ⟨k - 1, by omega⟩
  unfold impl_PagesOk.f pgFine
  by_cases h1 : t.length = r.length
  · rw [if_pos (by omega), pin_eq]
    simp only [Option.bind_some]
    by_cases h2 : 1 ≤ t.length ∧ t.length ≤ 12
    · have h2' : (1 : Int) ≤ (t.length : Int) ∧ (t.length : Int) ≤ 12 := by omega
      rw [decide_eq_true h2', decide_eq_true h1, decide_eq_true h2]
      show impl_PagesOk.j0 (k + 1) false t r = _
      have := pg_impl t r h1 (by omega) t.length k 0 (by omega) (by omega)
      rw [impl_PagesOk.j0, if_neg (by decide)]
      exact this
    · have h2' : ¬ ((1 : Int) ≤ (t.length : Int) ∧ (t.length : Int) ≤ 12) := by omega
      rw [decide_eq_false h2', decide_eq_true h1, decide_eq_false h2]
      show impl_PagesOk.j0 (k + 1) true t r = _
      rw [impl_PagesOk.j0, if_pos rfl]; rfl
  · rw [if_neg (by omega), impl_PagesOk.j0, if_pos rfl, decide_eq_false h1]; rfl
theorem pgok_spec (t : List ByteArray) (r : List Int) {k : Nat} (hk : 15 ≤ k) : spec_PagesOk.f k t r = some (pgFine t r) := by
  obtain ⟨k, rfl⟩ : ∃ m, k = m + 1 := ⟨k - 1, by omega⟩
  unfold spec_PagesOk.f pgFine
  by_cases h1 : t.length = r.length
  · rw [if_pos (by omega), pinS_eq]
    simp only [Option.bind_some]
    by_cases h2 : 1 ≤ t.length ∧ t.length ≤ 12
    · have h2' : (1 : Int) ≤ (t.length : Int) ∧ (t.length : Int) ≤ 12 := by omega
      rw [decide_eq_true h2', decide_eq_true h1, decide_eq_true h2]
      show spec_PagesOk.j0 (k + 1) false t r = _
      have := pg_spec t r h1 (by omega) t.length k 0 (by omega) (by omega)
      rw [spec_PagesOk.j0, if_neg (by decide)]
      exact this
    · have h2' : ¬ ((1 : Int) ≤ (t.length : Int) ∧ (t.length : Int) ≤ 12) := by omega
      rw [decide_eq_false h2', decide_eq_true h1, decide_eq_false h2]
      show spec_PagesOk.j0 (k + 1) true t r = _
      rw [spec_PagesOk.j0, if_pos rfl]; rfl
  · rw [if_neg (by omega), spec_PagesOk.j0, if_pos rfl, decide_eq_false h1]; rfl
theorem pgFine_len {t : List ByteArray} {r : List Int} (h : pgFine t r = true) : t.length = r.length ∧ 1 ≤ t.length ∧ t.length ≤ 12 := by
  unfold pgFine at h
  simp only [Bool.and_eq_true, decide_eq_true_eq] at h
  exact ⟨h.1, h.2.1.1, h.2.1.2⟩
theorem pgFrom_step {t : List ByteArray} {r : List Int} (d : Nat) : ∀ i, pgFrom t r i d = true → ∀ j, i ≤ j → j < i + d → pgStep t r j = true := by
  induction d with
  | zero => intro i _ j h1 h2; omega
  | succ d ih =>
    intro i h j h1 h2
    simp only [pgFrom, Bool.and_eq_true] at h
    by_cases e : j = i
    · subst e; exact h.1
    · exact ih (i + 1) h.2 j (by omega) (by omega)
def zerosFrom (r : List Int) (i : Nat) : Nat → Int
  | 0 => 0
  | d + 1 => (if rd r (i : Int) = 0 then 1 else 0) + zerosFrom r (i + 1) d
theorem zerosFrom_succ (r : List Int) (i d : Nat) : zerosFrom r i (d + 1) = (if rd r (i : Int) = 0 then 1 else 0) + zerosFrom r (i + 1) d := rfl
theorem zerosFrom_nonneg (r : List Int) (d : Nat) : ∀ i, 0 ≤ zerosFrom r i d ∧ zerosFrom r i d ≤ d := by
  induction d with
  | zero => intro i; simp [zerosFrom]
  | succ d ih =>
    intro i
    obtain ⟨h1, h2⟩ := ih (i + 1)
    unfold zerosFrom
    split <;> omega
theorem room_impl_loop (r : List Int) (hr : r.length ≤ 1000000) (d : Nat) : ∀ (k i : Nat) (x : Int), i + d = r.length → d < k → 0 ≤ x → x ≤ i → impl_PagesRoom.l0 k x r (r.length : Int) (i : Int) = some (x + zerosFrom r i d) := by
  induction d with
  | zero =>
    intro k i x hi hk hx hx2
    obtain ⟨k, rfl⟩ : ∃ m, k = m + 1 := ⟨k - 1, by omega⟩
    rw [impl_PagesRoom.l0, if_neg (by omega)]
    simp [zerosFrom]
  | succ d ih =>
    intro k i x hi hk hx hx2
    obtain ⟨k, rfl⟩ : ∃ m, k = m + 1 := ⟨k - 1, by omega⟩
    have w : wrap64 ((i : Int) + 1) = ((i + 1 : Nat) : Int) := wsucc (show i < 1000000 by omega) (by omega)
    have w2 : wrap64 (x + 1) = x + 1 := w64 (by omega) (by omega)
    rw [impl_PagesRoom.l0, if_pos (by omega), if_pos (by omega), if_pos (by omega), w, w2]
    clear w w2
    by_cases c : rd r (i : Int) = 0
    · rw [if_pos c, ih k (i + 1) (x + 1) (by omega) (by omega) (by omega) (by omega)]
      rw [zerosFrom_succ, if_pos c]; congr 1; omega
    · rw [if_neg c, ih k (i + 1) x (by omega) (by omega) (by omega) (by omega)]
      rw [zerosFrom_succ, if_neg c]; congr 1; omega
theorem room_impl (t : List ByteArray) (r : List Int) {k : Nat} (hk : 15 ≤ k) : impl_PagesRoom.f k t r = some (if pgFine t r = true then zerosFrom r 0 r.length else -1) := by
  unfold impl_PagesRoom.f
  rw [pgok_impl t r hk]; simp only [Option.bind_some]
  by_cases c : pgFine t r = true
  · rw [if_pos c, if_pos c]
    obtain ⟨hl, h1, h2⟩ := pgFine_len c
    have := room_impl_loop r (by omega) r.length k 0 0 (by omega) (by omega) (by omega) (by omega)
    rw [show ((0 : Nat) : Int) = 0 from rfl] at this
    rw [this]; congr 1; omega
  · rw [if_neg c, if_neg c]
/-! ### how pages are drawn -/
theorem take_loop (x : ByteArray) (d : Nat) : ∀ (k i : Nat) (t : List ByteArray) (r : List Int), i + d = r.length → d < k → t.length = r.length → r.length ≤ 100 → ∃ t' r' j, spec_l1Take.l0 k x (i : Int) t r = some (t', r', j) ∧ t'.length = t.length ∧ r'.length = r.length := by
  induction d with
  | zero =>
    intro k i t r hi hk hl hn
    obtain ⟨k, rfl⟩ : ∃ m, k = m + 1 := ⟨k - 1, by omega⟩
    rw [spec_l1Take.l0, if_neg (by omega)]
    exact ⟨_, _, _, rfl, rfl, rfl⟩
  | succ d ih =>
    intro k i t r hi hk hl hn
    obtain ⟨k, rfl⟩ : ∃ m, k = m + 1 := ⟨k - 1, by omega⟩
    have w : wrap64 ((i : Int) + 1) = ((i + 1 : Nat) : Int) := wsucc (show i < r.length by omega) (by omega)
    rw [spec_l1Take.l0, if_pos (by omega), if_pos (by omega), w]
    by_cases c : rd r (i : Int) = 0
    · rw [if_pos c, if_pos (by omega)]
      exact ⟨_, _, _, rfl, List.length_set .., List.length_set ..⟩
    · rw [if_neg c]
      exact ih k (i + 1) t r (by omega) (by omega) hl hn
theorem page_loop {s : List Int} (hb : Bytes s) (hs : s.length ≤ 2000) (d : Nat) : ∀ (k i : Nat) (xs : List Int) (p : Int), i + d = 4 → d + 1 < k → xs.length ≤ 10 + i → 0 ≤ p → p ≤ 800000000 + 2 * i → ∃ t, spec_l91Page.l0 k xs (i : Int) s p = some (t, p + 2 * d) := by
  induction d with
  | zero =>
    intro k i xs p hi hk hx hp0 hp1
    obtain ⟨k, rfl⟩ : ∃ m, k = m + 1 := ⟨k - 1, by omega⟩
    rw [spec_l91Page.l0, if_neg (by omega)]
    exact ⟨_, by rw [show p + 2 * ((0 : Nat) : Int) = p by simp]⟩
  | succ d ih =>
    intro k i xs p hi hk hx hp0 hp1
    obtain ⟨k, rfl⟩ : ∃ m, k = m + 1 := ⟨k - 1, by omega⟩
    obtain ⟨a, ha, _, _, _⟩ := pick_ok hb hs (p := p) hp0 (by omega) 4 (k := k) (by omega)
    obtain ⟨b, hb', _, _, _⟩ := pick_ok hb hs (p := p + 1) (by omega) (by omega) 90 (k := k) (by omega)
    have w : wrap64 ((i : Int) + 1) = ((i + 1 : Nat) : Int) := wsucc (show i < 10 by omega) (by omega)
    rw [spec_l91Page.l0, if_pos (by omega), ha]; simp only [Option.bind_some]
    rw [hb']; simp only [Option.bind_some]
    rw [if_pos (by omega), w]
    obtain ⟨t, ht⟩ := ih k (i + 1) (xs ++ [(wrap64 (a * b)) % 256]) (p + 1 + 1) (by omega) (by omega) (by rw [List.length_append]; simp; omega) (by omega) (by omega)
    exact ⟨t, by rw [ht]; congr 2; omega⟩
theorem prd4 {v : Int} (v1 : v < 4) : v < (([(-1), 0, 99, 100] : List Int).length : Int) := by simp; omega
theorem pages_tail {s : List Int} (hb : Bytes s) (hs : s.length ≤ 2000) {p : Int} (hp0 : 0 ≤ p) (hp1 : p ≤ 900000000) (t : List ByteArray) (r : List Int) (hl : t.length = r.length) (h1 : 1 ≤ r.length) (h2 : r.length ≤ 12) {k : Nat} (hk : 2 ≤ k) :
    ∃ t' r' p', spec_l91Pages.j2 k s p t r = some (t', r', p') ∧ p ≤ p' ∧ p' ≤ p + 2 := by
  obtain ⟨k, rfl⟩ : ∃ m, k = m + 1 := ⟨k - 1, by omega⟩
  obtain ⟨x, hx, _, _, _⟩ := pick_ok hb hs (p := p) hp0 (by omega) 16 (k := k) (by omega)
  obtain ⟨y, hy, y0, y1, _⟩ := pick_ok hb hs (p := p + 1) (by omega) (by omega) 4 (k := k) (by omega)
  have y1 := prd4 (y1 (by omega))
  have e1 : wrap64 ((t.length : Int) - 1) = (t.length : Int) - 1 := w64 (by omega) (by omega)
  rw [spec_l91Pages.j2, hx]; simp only [Option.bind_some]
  by_cases c0 : x = 0
  · rw [if_pos c0, hy]; simp only [Option.bind_some]
    rw [if_pos y0, if_pos y1, if_pos (by omega)]
    exact ⟨_, _, _, rfl, by omega, by omega⟩
  · rw [if_neg c0]
    by_cases c1 : x = 1
    · rw [if_pos c1, e1, if_pos (by omega), if_pos (by omega)]
      exact ⟨_, _, _, rfl, by omega, by omega⟩
    · rw [if_neg c1]
      by_cases c2 : x = 2
      · rw [if_pos c2, if_pos (by omega)]
        exact ⟨_, _, _, rfl, by omega, by omega⟩
      · rw [if_neg c2]
        by_cases c3 : x = 3
        · rw [if_pos c3, if_pos (by simp; omega), if_pos (by simp; omega)]
          exact ⟨_, _, _, rfl, by omega, by omega⟩
        · rw [if_neg c3]
          exact ⟨_, _, _, rfl, by omega, by omega⟩
theorem pages_mid {s : List Int} (hb : Bytes s) (hs : s.length ≤ 2000) {p : Int} (hp0 : 0 ≤ p) (hp1 : p ≤ 800000000) (f : Bool) (t : List ByteArray) (r : List Int) (hl : t.length = r.length) (h1 : 1 ≤ r.length) (h2 : r.length ≤ 12) {k : Nat} (hk : 3 ≤ k) :
    ∃ t' r' p', spec_l91Pages.j1 k f s p t r = some (t', r', p') ∧ p ≤ p' ∧ p' ≤ p + 3 := by
  obtain ⟨k, rfl⟩ : ∃ m, k = m + 1 := ⟨k - 1, by omega⟩
  rw [spec_l91Pages.j1]
  cases f with
  | true =>
    obtain ⟨x, hx, _, _, _⟩ := pick_ok hb hs (p := p) hp0 (by omega) 99 (k := k) (by omega)
    rw [if_pos rfl, hx]; simp only [Option.bind_some]
    rw [if_pos (by omega)]
    obtain ⟨t', r', p', h, q0, q1⟩ := pages_tail hb hs (p := p + 1) (by omega) (by omega) t (r.set (0 : Int).toNat (wrap64 (1 + x))) (by rw [List.length_set]; exact hl) (by rw [List.length_set]; exact h1) (by rw [List.length_set]; exact h2) (k := k) (by omega)
    exact ⟨t', r', p', h, by omega, by omega⟩
  | false =>
    rw [if_neg (by decide)]
    obtain ⟨t', r', p', h, q0, q1⟩ := pages_tail hb hs (p := p) (by omega) (by omega) t r hl h1 h2 (k := k) (by omega)
    exact ⟨t', r', p', h, by omega, by omega⟩
theorem pages_loop {s : List Int} (hb : Bytes s) (hs : s.length ≤ 2000) (d : Nat) : ∀ (k : Nat) (p : Int) (t : List ByteArray) (r : List Int), d + 20 < k → d ≤ 20 → t.length = r.length → 1 ≤ r.length → r.length ≤ 12 → 0 ≤ p → p + 8 * d ≤ 700000000 →
    ∃ t' r' p', spec_l91Pages.l0 k (d : Int) s p t r = some (t', r', p') ∧ p ≤ p' ∧ p' ≤ p + 8 * d + 4 := by
  induction d with
  | zero =>
    intro k p t r hk _ hl h1 h2 hp0 hp1
    obtain ⟨k, rfl⟩ : ∃ m, k = m + 1 := ⟨k - 1, by omega⟩
    have hu : ∃ b, spec_l1Used.f t r 0 = some b := by
      unfold spec_l1Used.f
      rw [pinS_eq, w64 (n := (r.length : Int) - 1) (by omega) (by omega)]
      simp only [Option.bind_some]
      rw [if_pos (decide_eq_true (by omega)), if_pos (by omega), if_pos (by omega)]
      exact ⟨_, rfl⟩
    obtain ⟨b, hu⟩ := hu
    rw [spec_l91Pages.l0, if_neg (by omega), hu]; simp only [Option.bind_some]
    by_cases c : b = true
    · obtain ⟨x, hx, _, _, _⟩ := pick_ok hb hs (p := p) hp0 (by omega) 2 (k := k) (by omega)
      rw [if_pos c, hx]; simp only [Option.bind_some]
      obtain ⟨t', r', p', h, q0, q1⟩ := pages_mid hb hs (p := p + 1) (by omega) (by omega) (x == 0) t r hl h1 h2 (k := k) (by omega)
      exact ⟨t', r', p', h, by omega, by omega⟩
    · rw [if_neg c]
      obtain ⟨t', r', p', h, q0, q1⟩ := pages_mid hb hs (p := p) (by omega) (by omega) false t r hl h1 h2 (k := k) (by omega)
      exact ⟨t', r', p', h, by omega, by omega⟩
  | succ d ih =>
    intro k p t r hk hd20 hl h1 h2 hp0 hp1
    obtain ⟨k, rfl⟩ : ∃ m, k = m + 1 := ⟨k - 1, by omega⟩
    obtain ⟨x, hx⟩ := page_loop hb hs 4 k 0 [] p (by omega) (by omega) (by simp) (by omega) (by omega)
    obtain ⟨t1, r1, j, ht, hl1, hl2⟩ := take_loop x r.length k 0 t r (by omega) (by omega) hl (by omega)
    have hx' : spec_l91Page.f k s p = some (x, p + 8) := by
      unfold spec_l91Page.f
      rw [show ((0 : Nat) : Int) = 0 from rfl] at hx
      rw [hx]; congr 2
    have ht' : spec_l1Take.f k t r x = some (t1, r1, j) := ht
    have e1 : wrap64 (((d + 1 : Nat) : Int) - 1) = (d : Int) := by rw [show ((d + 1 : Nat) : Int) - 1 = (d : Int) by omega]; exact w64 (by omega) (by omega)
    rw [spec_l91Pages.l0, if_pos (by omega), hx']; simp only [Option.bind_some]
    rw [ht']; simp only [Option.bind_some]
    rw [e1]
    obtain ⟨t', r', p', h, q0, q1⟩ := ih k (p + 8) t1 r1 (by omega) (by omega) (by omega) (by omega) (by omega) (by omega) (by omega)
    exact ⟨t', r', p', h, by omega, by omega⟩
theorem pages_ok {s : List Int} (hb : Bytes s) (hs : s.length ≤ 2000) {p : Int} (hp0 : 0 ≤ p) (hp1 : p ≤ 600000000) {k : Nat} (hk : 50 ≤ k) :
    ∃ t r p', spec_l91Pages.f k s p = some (t, r, p') ∧ p ≤ p' ∧ p' ≤ p + 100 := by
  obtain ⟨n, hn, n0, n1, _⟩ := pick_ok hb hs (p := p) hp0 (by omega) 12 (k := k) (by omega)
  have n1 := n1 (by omega)
  obtain ⟨m, hm, m0, m1, _⟩ := pick_ok hb hs (p := p + 1) (by omega) (by omega) 8 (k := k) (by omega)
  have m1 := m1 (by omega)
  have e1 : wrap64 (1 + n) = 1 + n := w64 (by omega) (by omega)
  have hp : spec_PagesNew.f (1 + n) = some (List.replicate (1 + n).toNat ⟨#[]⟩, List.replicate (1 + n).toNat 0, true) := by
    unfold spec_PagesNew.f
    rw [pinS_eq]; simp only [Option.bind_some]
    rw [if_pos (decide_eq_true (by omega)), if_pos (by omega), if_pos (by omega), if_pos (by omega)]
  unfold spec_l91Pages.f
  rw [hn]; simp only [Option.bind_some]
  rw [e1, hp]; simp only [Option.bind_some]
  rw [hm]; simp only [Option.bind_some]
  obtain ⟨t', r', p', h, q0, q1⟩ := pages_loop hb hs m.toNat k (p + 1 + 1) (List.replicate (1 + n).toNat ⟨#[]⟩) (List.replicate (1 + n).toNat 0) (by omega) (by omega) (by simp) (by simp; omega) (by simp; omega) (by omega) (by omega)
  rw [show ((m.toNat : Nat) : Int) = m by omega] at h
  exact ⟨t', r', p', h, by omega, by omega⟩

theorem FnPagesOk : BdFnPagesOk.Pure := by
  intro l0 ⟨_, hwf⟩
  obtain ⟨K, hK⟩ : ∃ K : Nat, 100 ≤ K := ⟨100, Nat.le_refl _⟩
  refine ⟨K, ?_⟩
  unfold laws_FnPagesOk.f
  by_cases hl : (l0.length : Int) > 1048576
  · rw [if_pos hl]
  · rw [if_neg hl]
    obtain ⟨s, ho, hb, hs⟩ := open_ok (bytes_of_wf hwf)
    obtain ⟨t, r, p, h1, p0, p1⟩ := pages_ok hb hs (p := 0) (by omega) (by omega) (k := K) (by omega)
    have hd : spec_DrawPagesOk.f K l0 = some (t, r) := by
      unfold spec_DrawPagesOk.f
      rw [ho]; simp only [Option.bind_some]
      rw [h1]; simp only [Option.bind_some]
    rw [hd]; simp only [Option.bind_some]
    rw [pgok_impl t r (by omega), pgok_spec t r (by omega), room_impl t r (by omega)]
    simp only [Option.bind_some, beq_self_eq_true, if_true]
    obtain ⟨z0, _⟩ := zerosFrom_nonneg r r.length 0
    by_cases c : pgFine t r = true
    · rw [if_pos c, c]
      simp [z0]
    · rw [if_neg c]
      have : pgFine t r = false := by simpa using c
      rw [this]; rfl

end Go.Proofs.Ytahncndhlpdegaa.Pure
