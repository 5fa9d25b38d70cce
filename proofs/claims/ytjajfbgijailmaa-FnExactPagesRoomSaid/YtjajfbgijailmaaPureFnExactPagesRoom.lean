/- The program's PagesRoom and the reference's answer alike at every pages. -/
import Derived.Test.YtjajfbgijailmaaBdFnExactPagesRoom
import Derived.WideShapes
import Derived.IntWalk
import Derived.OpenShut
namespace Go.Proofs.Ytjajfbgijailmaa.Pure
open Go.RowKit Go.Proofs.Ytjajfbgijailmaa.PFnExactPagesRoom Go.Proofs.YtjajfbgijailmaaW.PrintWords Go.Proofs.YtjajfbgijailmaaW.PrintLast
/-! ### small facts on numbers, bytes and rounds -/
theorem w64 {n : Int} (h1 : -9223372036854775808 ≤ n) (h2 : n ≤ 9223372036854775807) : wrap64 n = n := by unfold wrap64; omega
theorem w64_range (n : Int) : -9223372036854775808 ≤ wrap64 n ∧ wrap64 n ≤ 9223372036854775807 := by unfold wrap64; omega
theorem xor_ok {x y : Int} (hx : 0 ≤ x) (hx2 : x < 4611686018427387904) (hy : 0 ≤ y) (hy2 : y < 4611686018427387904) : 0 ≤ Go.bits .xor .i64 x y ∧ Go.bits .xor .i64 x y < 4611686018427387904 := by
  have h1 : (BitVec.ofInt 64 x ^^^ BitVec.ofInt 64 y).toNat < 2 ^ 62 := by
    rw [BitVec.toNat_xor]
    apply Nat.xor_lt_two_pow
    · rw [BitVec.toNat_ofInt]; omega
    · rw [BitVec.toNat_ofInt]; omega
  have h2 : Go.bits .xor .i64 x y = ((BitVec.ofInt 64 x ^^^ BitVec.ofInt 64 y).toNat : Int) := by
    show IntKind.wrap .i64 ((BitVec.ofInt 64 x ^^^ BitVec.ofInt 64 y).toNat : Int) = _
    generalize (BitVec.ofInt 64 x ^^^ BitVec.ofInt 64 y).toNat = m at h1
    exact IntWalk.i64_in _ (by omega)
  rw [h2]; omega
theorem tmod_ok {x n : Int} (hx : 0 ≤ x) (hn : 1 ≤ n) : 0 ≤ Int.tmod x n ∧ Int.tmod x n < n := by
  rw [Int.tmod_eq_emod_of_nonneg hx]
  exact ⟨Int.emod_nonneg _ (by omega), Int.emod_lt_of_pos _ (by omega)⟩
theorem tdiv_ok {x n : Int} (hx : 0 ≤ x) (hn : 1 ≤ n) : 0 ≤ Int.tdiv x n ∧ Int.tdiv x n ≤ x := by
  rw [Int.tdiv_eq_ediv_of_nonneg hx]
  exact ⟨Int.ediv_nonneg hx (by omega), Int.ediv_le_self _ hx⟩
theorem rd_mem {xs : List Int} {i : Int} (h0 : 0 ≤ i) (h1 : i < (xs.length : Int)) : rd xs i ∈ xs := by
  have hl : i.toNat < xs.length := by omega
  unfold rd
  rw [List.getD_eq_getElem?_getD, List.getElem?_eq_getElem hl]
  exact List.getElem_mem hl
def Bytes (s : List Int) : Prop := ∀ x ∈ s, 0 ≤ x ∧ x ≤ 255
theorem bytes_of_wf {s : List Int} (h : ∀ x ∈ s, (Lit.int .u8 x).wf = true) : Bytes s := fun x hx => Go.bounds_u8 (h x hx)
theorem bytes_rd {s : List Int} (h : Bytes s) {i : Int} (h0 : 0 ≤ i) (h1 : i < (s.length : Int)) : 0 ≤ rd s i ∧ rd s i ≤ 255 := h _ (rd_mem h0 h1)
theorem toList_inj {a b : ByteArray} : a.toList = b.toList ↔ a = b := by
  rw [ByteArray.toList_eq, ByteArray.toList_eq]
  constructor
  · intro h; exact Go.WideShapes.bytes_inj h
  · rintro rfl; rfl
theorem toList_nil {a : ByteArray} : a.toList = ([] : List UInt8) ↔ a.size = 0 := by
  rw [ByteArray.toList_eq, List.eq_nil_iff_length_eq_zero, data_length]
/-! ### rows that are copied, and rows that are held against themselves -/
theorem to_gen {β : Type} {l0 : Nat → List β → Int → Option (List β)} (xs : List β) (K : Nat)
    (hstep : ∀ (k : Nat) (acc : List β) (i : Nat) (hi : i < xs.length), K ≤ k → acc.length = xs.length → l0 (k + 1) acc (i : Int) = l0 k (acc.set i (xs[i]'hi)) ((i + 1 : Nat) : Int))
    (hend : ∀ (k : Nat) (acc : List β), l0 (k + 1) acc (xs.length : Int) = some acc) :
    ∀ (k : Nat) (acc : List β), acc.length = xs.length → xs.length + K < k → l0 k acc 0 = some xs := by
  have key : ∀ (d : Nat) (k : Nat) (acc : List β) (i : Nat), i + d = xs.length → d + K < k → acc.length = xs.length → (∀ j, j < i → acc[j]? = xs[j]?) → l0 k acc (i : Int) = some xs := by
    intro d
    induction d with
    | zero =>
      intro k acc i hd hk hl hj
      obtain ⟨k, rfl⟩ : ∃ m, k = m + 1 := ⟨k - 1, by omega⟩
      obtain rfl : i = xs.length := by omega
      rw [hend]
      congr 1
      apply List.ext_getElem?
      intro j
      by_cases h : j < xs.length
      · exact hj j h
      · rw [List.getElem?_eq_none (by omega), List.getElem?_eq_none (by omega)]
    | succ d ih =>
      intro k acc i hd hk hl hj
      obtain ⟨k, rfl⟩ : ∃ m, k = m + 1 := ⟨k - 1, by omega⟩
      have hi : i < xs.length := by omega
      rw [hstep k acc i hi (by omega) hl]
      refine ih k _ (i + 1) (by omega) (by omega) (by rw [List.length_set]; exact hl) (fun j hjl => ?_)
      by_cases e : j = i
      · subst e
        rw [List.getElem?_set_self (by omega), List.getElem?_eq_getElem hi]
      · rw [List.getElem?_set_ne (by omega)]
        exact hj j (by omega)
  intro k acc hl hk
  exact key xs.length k acc 0 (by omega) (by omega) hl (fun j hj => absurd hj (Nat.not_lt_zero j))
theorem eq_gen {l0 : Nat → Int → Option Bool} (n : Nat) (K : Nat)
    (hstep : ∀ (k : Nat) (i : Nat), i < n → K ≤ k → l0 (k + 1) (i : Int) = l0 k ((i + 1 : Nat) : Int)) (hend : ∀ (k : Nat), l0 (k + 1) (n : Int) = some true) :
    ∀ (k : Nat), n + K < k → l0 k 0 = some true := by
  have key : ∀ (d : Nat) (k : Nat) (i : Nat), i + d = n → d + K < k → l0 k (i : Int) = some true := by
    intro d
    induction d with
    | zero =>
      intro k i hd hk
      obtain ⟨k, rfl⟩ : ∃ m, k = m + 1 := ⟨k - 1, by omega⟩
      obtain rfl : i = n := by omega
      exact hend k
    | succ d ih =>
      intro k i hd hk
      obtain ⟨k, rfl⟩ : ∃ m, k = m + 1 := ⟨k - 1, by omega⟩
      rw [hstep k i (by omega) (by omega)]
      exact ih k (i + 1) (by omega) (by omega)
  intro k hk
  exact key n k 0 (by omega) (by omega)
theorem rd_get {l : List Int} {i : Nat} (h : i < l.length) : rd l (i : Int) = l[i] := by simp [rd, h]
theorem rdOf_get {α : Type} {z : α} {l : List α} {i : Nat} (h : i < l.length) : rdOf z l (i : Int) = l[i] := by simp [rdOf, h]
theorem wsucc {i n : Nat} (h : i < n) (hn : n ≤ 4611686018427387904) : wrap64 ((i : Int) + 1) = ((i + 1 : Nat) : Int) := by rw [w64 (by omega) (by omega)]; omega
/-! ### PagesOk, of the program and of the reference -/
theorem pin_eq (a b c : Int) : impl_in.f a b c = some (decide (b ≤ a ∧ a ≤ c)) := by
  unfold impl_in.f
  by_cases h : a ≥ b <;> simp [h]
theorem pinS_eq (a b c : Int) : spec_l6In.f a b c = some (decide (b ≤ a ∧ a ≤ c)) := by
  unfold spec_l6In.f
  by_cases h : a ≥ b <;> simp [h]
def pgStep (t : List ByteArray) (r : List Int) (i : Nat) : Bool := decide (0 ≤ rd r (i : Int) ∧ rd r (i : Int) ≤ 99) && decide (((rdOf ByteArray.empty t (i : Int)).size : Int) = if rd r (i : Int) = 0 then 0 else 4)
def pgFrom (t : List ByteArray) (r : List Int) (i : Nat) : Nat → Bool
  | 0 => true
  | d + 1 => pgStep t r i && pgFrom t r (i + 1) d
def pgFine (t : List ByteArray) (r : List Int) : Bool := decide (t.length = r.length) && (decide (1 ≤ t.length ∧ t.length ≤ 12) && pgFrom t r 0 t.length)
theorem pg_impl (t : List ByteArray) (r : List Int) (hl : t.length = r.length) (hn : r.length ≤ 12) (d : Nat) : ∀ (k i : Nat), i + d = r.length → d < k → impl_PagesOk.l0 k r (r.length : Int) (i : Int) t r = some (pgFrom t r i d) := by
  induction d with
  | zero =>
    intro k i hi hk
    obtain ⟨k, rfl⟩ : ∃ m, k = m + 1 := ⟨k - 1, by omega⟩
    rw [impl_PagesOk.l0, if_neg (by omega)]; rfl
  | succ d ih =>
    intro k i hi hk
    obtain ⟨k, rfl⟩ : ∃ m, k = m + 1 := ⟨k - 1, by omega⟩
    have e := ih k (i + 1) (by omega) (by omega)
    have w : wrap64 ((i : Int) + 1) = ((i + 1 : Nat) : Int) := wsucc (show i < r.length by omega) (by omega)
    have hlt : ((i : Int) < (t.length : Int)) = True := eq_true (by omega)
    rw [impl_PagesOk.l0, if_pos (by omega), if_pos (by omega), if_pos (by omega), w, e, pin_eq]
    simp only [hlt, if_true, Option.bind_some, pgFrom, pgStep]
    generalize pgFrom t r (i + 1) d = z
    generalize ((rdOf ByteArray.empty t (i : Int)).size : Int) = s
    generalize rd r (i : Int) = x
    by_cases x0 : x = 0
    · by_cases s0 : s = 0 <;> simp [x0, s0]
    · by_cases c : 0 ≤ x ∧ x ≤ 99
      · by_cases s4 : s = 4
        · simp [x0, c, s4]
        · simp [x0, c, s4]
      · rw [if_neg x0]
        simp [c]
theorem pg_spec (t : List ByteArray) (r : List Int) (hl : t.length = r.length) (hn : r.length ≤ 12) (d : Nat) : ∀ (k i : Nat), i + d = t.length → d < k → spec_PagesOk.l0 k (i : Int) t r = some (pgFrom t r i d) := by
  induction d with
  | zero =>
    intro k i hi hk
    obtain ⟨k, rfl⟩ : ∃ m, k = m + 1 := ⟨k - 1, by omega⟩
    rw [spec_PagesOk.l0, if_neg (by omega)]; rfl
  | succ d ih =>
    intro k i hi hk
    obtain ⟨k, rfl⟩ : ∃ m, k = m + 1 := ⟨k - 1, by omega⟩
    have e := ih k (i + 1) (by omega) (by omega)
    have w : wrap64 ((i : Int) + 1) = ((i + 1 : Nat) : Int) := wsucc (show i < r.length by omega) (by omega)
    rw [spec_PagesOk.l0, if_pos (by omega), if_pos (by omega), if_pos (by omega), w, e, pinS_eq]
    simp only [Option.bind_some, pgFrom, pgStep]
    generalize pgFrom t r (i + 1) d = z
    generalize ((rdOf ByteArray.empty t (i : Int)).size : Int) = s
    generalize rd r (i : Int) = x
    by_cases x0 : x = 0
    · by_cases s0 : s = 0 <;> simp [x0, s0]
    · by_cases c : 0 ≤ x ∧ x ≤ 99
      · by_cases s4 : s = 4
        · simp [x0, c, s4]
        · simp [x0, c, s4]
      · rw [if_neg x0]
        simp [c]
theorem pgok_impl (t : List ByteArray) (r : List Int) {k : Nat} (hk : 15 ≤ k) : impl_PagesOk.f k t r = some (pgFine t r) := by
  obtain ⟨k, rfl⟩ : ∃ m, k = m + 1 := ⟨k - 1, by omega⟩
  unfold impl_PagesOk.f pgFine
  by_cases h1 : t.length = r.length
  · rw [if_pos (by omega), pin_eq]
    simp only [Option.bind_some]
    by_cases h2 : 1 ≤ t.length ∧ t.length ≤ 12
    · have h2' : (1 : Int) ≤ (t.length : Int) ∧ (t.length : Int) ≤ 12 := by omega
      rw [decide_eq_true h2', decide_eq_true h1, decide_eq_true h2]
      show impl_PagesOk.j0 (k + 1) false t r = _
      have := pg_impl t r h1 (by omega) t.length k 0 (by omega) (by omega)
      rw [impl_PagesOk.j0, if_neg (by decide)]
      exact this
    · have h2' : ¬ ((1 : Int) ≤ (t.length : Int) ∧ (t.length : Int) ≤ 12) := by omega
      rw [decide_eq_false h2', decide_eq_true h1, decide_eq_false h2]
      show impl_PagesOk.j0 (k + 1) true t r = _
      rw [impl_PagesOk.j0, if_pos rfl]; rfl
  · rw [if_neg (by omega), impl_PagesOk.j0, if_pos rfl, decide_eq_false h1]; rfl
theorem pgok_spec (t : List ByteArray) (r : List Int) {k : Nat} (hk : 15 ≤ k) : spec_PagesOk.f k t r = some (pgFine t r) := by
  obtain ⟨k, rfl⟩ : ∃ m, k = m + 1 := ⟨k - 1, by omega⟩
  unfold spec_PagesOk.f pgFine
  by_cases h1 : t.length = r.length
  · rw [if_pos (by omega), pinS_eq]
    simp only [Option.bind_some]
    by_cases h2 : 1 ≤ t.length ∧ t.length ≤ 12
    · have h2' : (1 : Int) ≤ (t.length : Int) ∧ (t.length : Int) ≤ 12 := by omega
      rw [decide_eq_true h2', decide_eq_true h1, decide_eq_true h2]
      show spec_PagesOk.j0 (k + 1) false t r = _
      have := pg_spec t r h1 (by omega) t.length k 0 (by omega) (by omega)
      rw [spec_PagesOk.j0, if_neg (by decide)]
      exact this
    · have h2' : ¬ ((1 : Int) ≤ (t.length : Int) ∧ (t.length : Int) ≤ 12) := by omega
      rw [decide_eq_false h2', decide_eq_true h1, decide_eq_false h2]
      show spec_PagesOk.j0 (k + 1) true t r = _
      rw [spec_PagesOk.j0, if_pos rfl]; rfl
  · rw [if_neg (by omega), spec_PagesOk.j0, if_pos rfl, decide_eq_false h1]; rfl
theorem pgFine_len {t : List ByteArray} {r : List Int} (h : pgFine t r = true) : t.length = r.length ∧ 1 ≤ t.length ∧ t.length ≤ 12 := by
  unfold pgFine at h
  simp only [Bool.and_eq_true, decide_eq_true_eq] at h
  exact ⟨h.1, h.2.1.1, h.2.1.2⟩
theorem pgFrom_step {t : List ByteArray} {r : List Int} (d : Nat) : ∀ i, pgFrom t r i d = true → ∀ j, i ≤ j → j < i + d → pgStep t r j = true := by
  induction d with
  | zero => intro i _ j h1 h2; omega
  | succ d ih =>
    intro i h j h1 h2
    simp only [pgFrom, Bool.and_eq_true] at h
    by_cases e : j = i
    · subst e; exact h.1
    · exact ih (i + 1) h.2 j (by omega) (by omega)
theorem toIntS_ok (l : List Int) (hl : l.length ≤ 17592186044416) {k : Nat} (hk : l.length < k) : laws_toIntS.f k l = some l := by
  unfold laws_toIntS.f
  rw [if_pos (by omega), if_pos (by omega)]
  refine to_gen (l0 := fun k acc i => laws_toIntS.l0 k l acc i) l 0 ?_ ?_ k _ (by simp) (by omega)
  · intro k acc i hi _ ha
    show laws_toIntS.l0 (k + 1) l acc (i : Int) = _
    rw [laws_toIntS.l0, if_pos (by omega), if_pos (by omega), if_pos (by omega), wsucc hi (by omega), rd_get hi, Int.toNat_natCast]
  · intro k acc
    show laws_toIntS.l0 (k + 1) l acc (l.length : Int) = _
    rw [laws_toIntS.l0, if_neg (by omega)]
theorem eqIntS_ok (l : List Int) (hl : l.length ≤ 17592186044416) {k : Nat} (hk : l.length < k) : laws_eqIntS.f k l l = some true := by
  unfold laws_eqIntS.f
  rw [if_pos rfl]
  refine eq_gen (l0 := fun k i => laws_eqIntS.l0 k l l i) l.length 0 ?_ ?_ k (by omega)
  · intro k i hi _
    show laws_eqIntS.l0 (k + 1) l l (i : Int) = _
    rw [laws_eqIntS.l0, if_pos (by omega), if_pos (by omega), if_pos (by omega), wsucc hi (by omega)]
    simp
  · intro k
    show laws_eqIntS.l0 (k + 1) l l (l.length : Int) = _
    rw [laws_eqIntS.l0, if_neg (by omega)]
theorem toStringS_ok (l : List ByteArray) (hl : l.length ≤ 17592186044416) {k : Nat} (hk : l.length < k) : laws_toStringS.f k l = some l := by
  unfold laws_toStringS.f
  rw [if_pos (by omega), if_pos (by omega)]
  refine to_gen (l0 := fun k acc i => laws_toStringS.l0 k l acc i) l 0 ?_ ?_ k _ (by simp) (by omega)
  · intro k acc i hi _ ha
    show laws_toStringS.l0 (k + 1) l acc (i : Int) = _
    rw [laws_toStringS.l0, if_pos (by omega), if_pos (by omega), if_pos (by omega), wsucc hi (by omega), rdOf_get hi, Int.toNat_natCast]
  · intro k acc
    show laws_toStringS.l0 (k + 1) l acc (l.length : Int) = _
    rw [laws_toStringS.l0, if_neg (by omega)]
theorem eqStringS_ok (l : List ByteArray) (hl : l.length ≤ 17592186044416) {k : Nat} (hk : l.length < k) : laws_eqStringS.f k l l = some true := by
  unfold laws_eqStringS.f
  rw [if_pos rfl]
  refine eq_gen (l0 := fun k i => laws_eqStringS.l0 k l l i) l.length 0 ?_ ?_ k (by omega)
  · intro k i hi _
    show laws_eqStringS.l0 (k + 1) l l (i : Int) = _
    rw [laws_eqStringS.l0, if_pos (by omega), if_pos (by omega), if_pos (by omega), wsucc hi (by omega)]
    simp
  · intro k
    show laws_eqStringS.l0 (k + 1) l l (l.length : Int) = _
    rw [laws_eqStringS.l0, if_neg (by omega)]
theorem toPages_ok (t : List ByteArray) (r : List Int) (h1 : t.length ≤ 17592186044416) (h2 : r.length ≤ 17592186044416) {k : Nat} (hk : t.length < k) (hk2 : r.length < k) : laws_toPages.f k t r = some (t, r) := by
  unfold laws_toPages.f
  rw [toStringS_ok t h1 hk]; simp only [Option.bind_some]
  rw [toIntS_ok r h2 hk2]; rfl
theorem eqPages_ok (t : List ByteArray) (r : List Int) (h1 : t.length ≤ 17592186044416) (h2 : r.length ≤ 17592186044416) {k : Nat} (hk : t.length < k) (hk2 : r.length < k) : laws_eqPages.f k t r t r = some true := by
  unfold laws_eqPages.f
  rw [eqStringS_ok t h1 hk]; simp only [Option.bind_some, if_true]
  rw [eqIntS_ok r h2 hk2]; rfl
theorem szStr_loop (l : List ByteArray) (hn : l.length ≤ 4611686018427387904) (hb : ∀ z ∈ l, z.size ≤ 140737488351232) (d : Nat) : ∀ (k i : Nat) (a : Int), i + d = l.length → d < k → 0 ≤ a → a ≤ 1048576 → ∃ t, laws_szStringS.l0 k l a (i : Int) = some t ∧ t ≤ 1048576 := by
  induction d with
  | zero =>
    intro k i a hi hk h0 h1
    obtain ⟨k, rfl⟩ : ∃ m, k = m + 1 := ⟨k - 1, by omega⟩
    rw [laws_szStringS.l0, if_neg (by omega)]
    exact ⟨_, rfl, h1⟩
  | succ d ih =>
    intro k i a hi hk h0 h1
    obtain ⟨k, rfl⟩ : ∃ m, k = m + 1 := ⟨k - 1, by omega⟩
    have hil : i < l.length := by omega
    have w : wrap64 ((i : Int) + 1) = ((i + 1 : Nat) : Int) := wsucc hil (by omega)
    have hz : (rdOf ByteArray.empty l (i : Int)).size ≤ 140737488351232 := by rw [rdOf_get hil]; exact hb _ (List.getElem_mem hil)
    rw [laws_szStringS.l0, if_pos (by omega), if_pos (by omega), w]
    generalize rdOf ByteArray.empty l (i : Int) = s at hz ⊢
    rw [w64 (n := a - (s.size : Int)) (by omega) (by omega)]
    by_cases c : a - (s.size : Int) < 0
    · rw [if_pos c]; exact ⟨_, rfl, by omega⟩
    · rw [if_neg c]; exact ih k (i + 1) _ (by omega) (by omega) (by omega) (by omega)
theorem szPages_le (t : List ByteArray) (r : List Int) (h1 : t.length ≤ 17592186044416) (hb : ∀ z ∈ t, z.size ≤ 140737488351232) (h2 : r.length ≤ 17592186044416) : ∃ K, ∀ k, K ≤ k → ∃ x, laws_szPages.f k t r 1048576 = some x ∧ (0 ≤ x → t.length ≤ 1048576 ∧ r.length ≤ 1048576) := by
  by_cases c : (1048576 : Int) - (t.length : Int) < 0
  · refine ⟨0, fun k _ => ⟨-1, ?_, fun h => by omega⟩⟩
    unfold laws_szPages.f laws_szStringS.f
    rw [w64 (n := 1048576 - (t.length : Int)) (by omega) (by omega), if_pos c]; rfl
  · obtain ⟨x, hx, hx1⟩ := szStr_loop t (by omega) hb t.length (t.length + 1) 0 (1048576 - (t.length : Int)) (by omega) (by omega) (by omega) (by omega)
    refine ⟨t.length + 1, fun k hk => ?_⟩
    have hx' : laws_szStringS.l0 k t (1048576 - (t.length : Int)) 0 = some x := at_rounds (g := fun k => laws_szStringS.l0 k t (1048576 - (t.length : Int)) 0) (fun k => laws_szStringS.mono_l k _ _ _) hk hx
    unfold laws_szPages.f laws_szStringS.f
    rw [w64 (n := 1048576 - (t.length : Int)) (by omega) (by omega), if_neg c, hx']
    simp only [Option.bind_some]
    by_cases c2 : x < 0
    · rw [if_pos c2]; exact ⟨_, rfl, fun h => by omega⟩
    · rw [if_neg c2]
      unfold laws_szIntS.f
      rw [w64 (n := x - (r.length : Int)) (by omega) (by omega)]
      by_cases c3 : x - (r.length : Int) < 0
      · rw [if_pos c3]; exact ⟨-1, rfl, fun h => by omega⟩
      · rw [if_neg c3]; simp only [Option.bind_some]; rw [if_neg c3]
        exact ⟨_, rfl, fun h => by omega⟩
def zerosFrom (r : List Int) (i : Nat) : Nat → Int
  | 0 => 0
  | d + 1 => (if rd r (i : Int) = 0 then 1 else 0) + zerosFrom r (i + 1) d
theorem zerosFrom_succ (r : List Int) (i d : Nat) : zerosFrom r i (d + 1) = (if rd r (i : Int) = 0 then 1 else 0) + zerosFrom r (i + 1) d := rfl
theorem zerosFrom_nonneg (r : List Int) (d : Nat) : ∀ i, 0 ≤ zerosFrom r i d ∧ zerosFrom r i d ≤ d := by
  induction d with
  | zero => intro i; simp [zerosFrom]
  | succ d ih =>
    intro i
    obtain ⟨h1, h2⟩ := ih (i + 1)
    unfold zerosFrom
    split <;> omega
theorem room_impl_loop (r : List Int) (hr : r.length ≤ 1000000) (d : Nat) : ∀ (k i : Nat) (x : Int), i + d = r.length → d < k → 0 ≤ x → x ≤ i → impl_PagesRoom.l0 k x r (r.length : Int) (i : Int) = some (x + zerosFrom r i d) := by
  induction d with
  | zero =>
    intro k i x hi hk hx hx2
    obtain ⟨k, rfl⟩ : ∃ m, k = m + 1 := ⟨k - 1, by omega⟩
    rw [impl_PagesRoom.l0, if_neg (by omega)]
    simp [zerosFrom]
  | succ d ih =>
    intro k i x hi hk hx hx2
    obtain ⟨k, rfl⟩ : ∃ m, k = m + 1 := ⟨k - 1, by omega⟩
    have w : wrap64 ((i : Int) + 1) = ((i + 1 : Nat) : Int) := wsucc (show i < 1000000 by omega) (by omega)
    have w2 : wrap64 (x + 1) = x + 1 := w64 (by omega) (by omega)
    rw [impl_PagesRoom.l0, if_pos (by omega), if_pos (by omega), if_pos (by omega), w, w2]
    clear w w2
    by_cases c : rd r (i : Int) = 0
    · rw [if_pos c, ih k (i + 1) (x + 1) (by omega) (by omega) (by omega) (by omega)]
      rw [zerosFrom_succ, if_pos c]; congr 1; omega
    · rw [if_neg c, ih k (i + 1) x (by omega) (by omega) (by omega) (by omega)]
      rw [zerosFrom_succ, if_neg c]; congr 1; omega
theorem room_impl (t : List ByteArray) (r : List Int) {k : Nat} (hk : 15 ≤ k) : impl_PagesRoom.f k t r = some (if pgFine t r = true then zerosFrom r 0 r.length else -1) := by
  unfold impl_PagesRoom.f
  rw [pgok_impl t r hk]; simp only [Option.bind_some]
  by_cases c : pgFine t r = true
  · rw [if_pos c, if_pos c]
    obtain ⟨hl, h1, h2⟩ := pgFine_len c
    have := room_impl_loop r (by omega) r.length k 0 0 (by omega) (by omega) (by omega) (by omega)
    rw [show ((0 : Nat) : Int) = 0 from rfl] at this
    rw [this]; congr 1; omega
  · rw [if_neg c, if_neg c]
theorem room_spec_loop (t : List ByteArray) (r : List Int) (hr : r.length ≤ 1000000) (d : Nat) : ∀ (k i : Nat) (x : Int), i + d = r.length → d < k → 0 ≤ x → x ≤ i → spec_l1Room.l0 k x (i : Int) t r = some (x + zerosFrom r i d) := by
  induction d with
  | zero =>
    intro k i x hi hk hx hx2
    obtain ⟨k, rfl⟩ : ∃ m, k = m + 1 := ⟨k - 1, by omega⟩
    rw [spec_l1Room.l0, if_neg (by omega)]
    simp [zerosFrom]
  | succ d ih =>
    intro k i x hi hk hx hx2
    obtain ⟨k, rfl⟩ : ∃ m, k = m + 1 := ⟨k - 1, by omega⟩
    have w : wrap64 ((i : Int) + 1) = ((i + 1 : Nat) : Int) := wsucc (show i < 1000000 by omega) (by omega)
    have w2 : wrap64 (x + 1) = x + 1 := w64 (by omega) (by omega)
    rw [spec_l1Room.l0, if_pos (by omega), if_pos (by omega), w, w2]
    clear w w2
    by_cases c : rd r (i : Int) = 0
    · rw [if_pos c, ih k (i + 1) (x + 1) (by omega) (by omega) (by omega) (by omega)]
      rw [zerosFrom_succ, if_pos c]; congr 1; omega
    · rw [if_neg c, ih k (i + 1) x (by omega) (by omega) (by omega) (by omega)]
      rw [zerosFrom_succ, if_neg c]; congr 1; omega
theorem room_spec (t : List ByteArray) (r : List Int) {k : Nat} (hk : 15 ≤ k) : spec_PagesRoom.f k t r = some (if pgFine t r = true then zerosFrom r 0 r.length else -1) := by
  unfold spec_PagesRoom.f spec_l1Room.f
  rw [pgok_spec t r hk]; simp only [Option.bind_some]
  by_cases c : pgFine t r = true
  · rw [if_pos c, if_pos c]
    obtain ⟨hl, h1, h2⟩ := pgFine_len c
    have := room_spec_loop t r (by omega) r.length k 0 0 (by omega) (by omega) (by omega) (by omega)
    rw [show ((0 : Nat) : Int) = 0 from rfl] at this
    rw [this]; simp
  · rw [if_neg c, if_neg c]

theorem FnExactPagesRoom : BdFnExactPagesRoom.Pure := by
  intro t r ⟨⟨h1, hb⟩, h2, _⟩
  obtain ⟨K, hK⟩ := szPages_le t r (by omega) hb (by omega)
  refine ⟨K + 2000000, ?_⟩
  obtain ⟨x, hx, hg⟩ := hK (K + 2000000) (by omega)
  unfold laws_FnExactPagesRoom.f
  rw [hx]; simp only [Option.bind_some]
  by_cases c : x < 0
  · rw [if_pos c]
  · rw [if_neg c]
    obtain ⟨g1, g2⟩ := hg (by omega)
    rw [toPages_ok t r (by omega) (by omega) (by omega) (by omega)]; simp only [Option.bind_some]
    rw [room_spec t r (by omega)]; simp only [Option.bind_some]
    rw [room_impl t r (by omega)]; simp only [Option.bind_some]
    rw [eqPages_ok t r (by omega) (by omega) (by omega) (by omega)]; simp

end Go.Proofs.Ytjajfbgijailmaa.Pure
