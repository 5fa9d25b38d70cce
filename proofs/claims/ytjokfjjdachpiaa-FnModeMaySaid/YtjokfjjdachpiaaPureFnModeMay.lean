/- Who may do all may do each: at every code. -/
import Derived.Test.YtjokfjjdachpiaaBdFnModeMay
import Derived.WideShapes
import Derived.IntWalk
import Derived.OpenShut
namespace Go.Proofs.Ytjokfjjdachpiaa.Pure
open Go.RowKit Go.Proofs.Ytjokfjjdachpiaa.XFnModeMay Go.Proofs.YtjokfjjdachpiaaW.PrintWords Go.Proofs.YtjokfjjdachpiaaW.PrintLast
/-! ### small facts on numbers, bytes and rounds -/
theorem w64 {n : Int} (h1 : -9223372036854775808 ≤ n) (h2 : n ≤ 9223372036854775807) : wrap64 n = n := by unfold wrap64; omega
theorem w64_range (n : Int) : -9223372036854775808 ≤ wrap64 n ∧ wrap64 n ≤ 9223372036854775807 := by unfold wrap64; omega
theorem xor_ok {x y : Int} (hx : 0 ≤ x) (hx2 : x < 4611686018427387904) (hy : 0 ≤ y) (hy2 : y < 4611686018427387904) : 0 ≤ Go.bits .xor .i64 x y ∧ Go.bits .xor .i64 x y < 4611686018427387904 := by
  have h1 : (BitVec.ofInt 64 x ^^^ BitVec.ofInt 64 y).toNat < 2 ^ 62 := by
    rw [BitVec.toNat_xor]
    apply Nat.xor_lt_two_pow
    · rw [BitVec.toNat_ofInt]; omega
    · rw [BitVec.toNat_ofInt]; omega
  have h2 : Go.bits .xor .i64 x y = ((BitVec.ofInt 64 x ^^^ BitVec.ofInt 64 y).toNat : Int) := by
    show IntKind.wrap .i64 ((BitVec.ofInt 64 x ^^^ BitVec.ofInt 64 y).toNat : Int) = _
    generalize (BitVec.ofInt 64 x ^^^ BitVec.ofInt 64 y).toNat = m at h1
    exact IntWalk.i64_in _ (by omega)
  rw [h2]; omega
theorem tmod_ok {x n : Int} (hx : 0 ≤ x) (hn : 1 ≤ n) : 0 ≤ Int.tmod x n ∧ Int.tmod x n < n := by
  rw [Int.tmod_eq_emod_of_nonneg hx]
  exact ⟨Int.emod_nonneg _ (by omega), Int.emod_lt_of_pos _ (by omega)⟩
theorem tdiv_ok {x n : Int} (hx : 0 ≤ x) (hn : 1 ≤ n) : 0 ≤ Int.tdiv x n ∧ Int.tdiv x n ≤ x := by
  rw [Int.tdiv_eq_ediv_of_nonneg hx]
  exact ⟨Int.ediv_nonneg hx (by omega), Int.ediv_le_self _ hx⟩
theorem rd_mem {xs : List Int} {i : Int} (h0 : 0 ≤ i) (h1 : i < (xs.length : Int)) : rd xs i ∈ xs := by
  have hl : i.toNat < xs.length := by omega
  unfold rd
  rw [List.getD_eq_getElem?_getD, List.getElem?_eq_getElem hl]
  exact List.getElem_mem hl
def Bytes (s : List Int) : Prop := ∀ x ∈ s, 0 ≤ x ∧ x ≤ 255
theorem bytes_of_wf {s : List Int} (h : ∀ x ∈ s, (Lit.int .u8 x).wf = true) : Bytes s := fun x hx => Go.bounds_u8 (h x hx)
theorem bytes_rd {s : List Int} (h : Bytes s) {i : Int} (h0 : 0 ≤ i) (h1 : i < (s.length : Int)) : 0 ≤ rd s i ∧ rd s i ≤ 255 := h _ (rd_mem h0 h1)
theorem toList_inj {a b : ByteArray} : a.toList = b.toList ↔ a = b := by
  rw [ByteArray.toList_eq, ByteArray.toList_eq]
  constructor
  · intro h; exact Go.WideShapes.bytes_inj h
  · rintro rfl; rfl
theorem toList_nil {a : ByteArray} : a.toList = ([] : List UInt8) ↔ a.size = 0 := by
  rw [ByteArray.toList_eq, List.eq_nil_iff_length_eq_zero, data_length]
/-! ### the reader of a code: l6Open, pick -/
theorem open_ok {l0 : List Int} (hb : Bytes l0) : ∃ s, spec_l6Open.f l0 = some (s, 0) ∧ Bytes s ∧ s.length ≤ 2000 := by
  unfold spec_l6Open.f
  by_cases h : (l0.length : Int) > 2000
  · rw [if_pos h, if_pos (by omega)]
    exact ⟨_, rfl, fun x hx => hb x (List.mem_of_mem_take hx), by rw [List.length_take]; omega⟩
  · rw [if_neg h]
    exact ⟨_, rfl, hb, by omega⟩
theorem pick_ok {s : List Int} (hb : Bytes s) (hs : s.length ≤ 2000) {p : Int} (hp0 : 0 ≤ p) (hp1 : p ≤ 1000000000) (n : Int) {k : Nat} (hk : 1 ≤ k) :
    ∃ v, spec_l6Rd_pick.f k s p n = some (v, p + 1) ∧ 0 ≤ v ∧ (1 ≤ n → v < n) ∧ (n < 1 → v = 0) := by
  obtain ⟨k, rfl⟩ : ∃ m, k = m + 1 := ⟨k - 1, by omega⟩
  have e1 : wrap64 (p + 1) = p + 1 := w64 (by omega) (by omega)
  have e2 : wrap64 (p + 1 - 1) = p := by rw [show p + 1 - 1 = p by omega]; exact w64 (by omega) (by omega)
  unfold spec_l6Rd_pick.f
  by_cases hn : n < 1
  · rw [if_pos hn]; simp only [spec_l6Rd_pick.j0, if_true, e1]
    exact ⟨0, rfl, by omega, by omega, fun _ => rfl⟩
  · rw [if_neg hn]; simp only [spec_l6Rd_pick.j0, e1, e2]
    by_cases h0 : (s.length : Int) = 0
    · have : ((s.length : Int) == 0) = true := by simp [h0]
      rw [this, if_pos rfl]
      exact ⟨0, rfl, by omega, by omega, fun _ => rfl⟩
    · have : ((s.length : Int) == 0) = false := by simpa using h0
      rw [this, if_neg (by decide)]
      by_cases hl : p < (s.length : Int)
      · rw [if_pos hl, if_pos hp0, if_neg (by omega)]
        have hr := bytes_rd hb hp0 hl
        rw [w64 (n := rd s p) (by omega) (by omega)]
        have ht := tmod_ok hr.1 (show 1 ≤ n by omega)
        exact ⟨_, rfl, ht.1, fun _ => ht.2, by omega⟩
      · rw [if_neg hl, if_neg h0]
        have a1 := tmod_ok (x := p) (n := (s.length : Int)) hp0 (by omega)
        rw [if_pos a1.1, if_pos a1.2]
        have e3 : wrap64 (p * 7) = p * 7 := w64 (by omega) (by omega)
        have e4 : wrap64 (p * 7 + 3) = p * 7 + 3 := w64 (by omega) (by omega)
        simp only [e3, e4]
        have a2 := tmod_ok (x := p * 7 + 3) (n := (s.length : Int)) (by omega) (by omega)
        rw [if_pos a2.1, if_pos a2.2, if_neg (by omega)]
        have b1 := bytes_rd hb a1.1 a1.2
        have b2 := bytes_rd hb a2.1 a2.2
        have a3 := tdiv_ok (x := p) (n := (s.length : Int)) hp0 (by omega)
        generalize rd s (p.tmod (s.length : Int)) = x1 at b1 ⊢
        generalize rd s ((p * 7 + 3).tmod (s.length : Int)) = x2 at b2 ⊢
        generalize p.tdiv (s.length : Int) = x3 at a3 ⊢
        have c1 : wrap64 x1 = x1 := w64 (by omega) (by omega)
        have c2 : wrap64 x2 = x2 := w64 (by omega) (by omega)
        have c3 : wrap64 x3 = x3 := w64 (by omega) (by omega)
        have c4 : wrap64 (x1 * 131) = x1 * 131 := w64 (by omega) (by omega)
        have c5 : wrap64 (x2 * 1117) = x2 * 1117 := w64 (by omega) (by omega)
        have c6 : wrap64 (x1 * 131 + x2 * 1117) = x1 * 131 + x2 * 1117 := w64 (by omega) (by omega)
        have c7 : wrap64 (p * 29) = p * 29 := w64 (by omega) (by omega)
        have c8 : wrap64 (x1 * 131 + x2 * 1117 + p * 29) = x1 * 131 + x2 * 1117 + p * 29 := w64 (by omega) (by omega)
        have c9 : wrap64 (x3 * 53) = x3 * 53 := w64 (by omega) (by omega)
        have c10 : wrap64 (x1 * 131 + x2 * 1117 + p * 29 + x3 * 53) = x1 * 131 + x2 * 1117 + p * 29 + x3 * 53 := w64 (by omega) (by omega)
        simp only [c1, c2, c3, c4, c5, c6, c7, c8, c9, c10]
        have a4 := tdiv_ok (x := x1 * 131 + x2 * 1117 + p * 29 + x3 * 53) (n := 64) (by omega) (by omega)
        have c11 : wrap64 ((x1 * 131 + x2 * 1117 + p * 29 + x3 * 53).tdiv 64) = (x1 * 131 + x2 * 1117 + p * 29 + x3 * 53).tdiv 64 := w64 (by omega) (by omega)
        rw [c11]
        have a5 := xor_ok (x := x1 * 131 + x2 * 1117 + p * 29 + x3 * 53) (y := (x1 * 131 + x2 * 1117 + p * 29 + x3 * 53).tdiv 64) (by omega) (by omega) a4.1 (by omega)
        have a6 := tmod_ok a5.1 (show 1 ≤ n by omega)
        exact ⟨_, rfl, a6.1, fun _ => a6.2, by omega⟩
/-! ### rows that are copied, and rows that are held against themselves -/
theorem to_gen {β : Type} {l0 : Nat → List β → Int → Option (List β)} (xs : List β) (K : Nat)
    (hstep : ∀ (k : Nat) (acc : List β) (i : Nat) (hi : i < xs.length), K ≤ k → acc.length = xs.length → l0 (k + 1) acc (i : Int) = l0 k (acc.set i (xs[i]'hi)) ((i + 1 : Nat) : Int))
    (hend : ∀ (k : Nat) (acc : List β), l0 (k + 1) acc (xs.length : Int) = some acc) :
    ∀ (k : Nat) (acc : List β), acc.length = xs.length → xs.length + K < k → l0 k acc 0 = some xs := by
  have key : ∀ (d : Nat) (k : Nat) (acc : List β) (i : Nat), i + d = xs.length → d + K < k → acc.length = xs.length → (∀ j, j < i → acc[j]? = xs[j]?) → l0 k acc (i : Int) = some xs := by
    intro d
    induction d with
    | zero =>
      intro k acc i hd hk hl hj
      obtain ⟨k, rfl⟩ : ∃ m, k = m + 1 := ⟨k - 1, by omega⟩
      obtain rfl : i = xs.length := by omega
      rw [hend]
      congr 1
      apply List.ext_getElem?
      intro j
      by_cases h : j < xs.length
      · exact hj j h
      · rw [List.getElem?_eq_none (by omega), List.getElem?_eq_none (by omega)]
    | succ d ih =>
      intro k acc i hd hk hl hj
      obtain ⟨k, rfl⟩ : ∃ m, k = m + 1 := ⟨k - 1, by omega⟩
      have hi : i < xs.length := by omega
      rw [hstep k acc i hi (by omega) hl]
      refine ih k _ (i + 1) (by omega) (by omega) (by rw [List.length_set]; exact hl) (fun j hjl => ?_)
      by_cases e : j = i
      · subst e
        rw [List.getElem?_set_self (by omega), List.getElem?_eq_getElem hi]
      · rw [List.getElem?_set_ne (by omega)]
        exact hj j (by omega)
  intro k acc hl hk
  exact key xs.length k acc 0 (by omega) (by omega) hl (fun j hj => absurd hj (Nat.not_lt_zero j))
theorem eq_gen {l0 : Nat → Int → Option Bool} (n : Nat) (K : Nat)
    (hstep : ∀ (k : Nat) (i : Nat), i < n → K ≤ k → l0 (k + 1) (i : Int) = l0 k ((i + 1 : Nat) : Int)) (hend : ∀ (k : Nat), l0 (k + 1) (n : Int) = some true) :
    ∀ (k : Nat), n + K < k → l0 k 0 = some true := by
  have key : ∀ (d : Nat) (k : Nat) (i : Nat), i + d = n → d + K < k → l0 k (i : Int) = some true := by
    intro d
    induction d with
    | zero =>
      intro k i hd hk
      obtain ⟨k, rfl⟩ : ∃ m, k = m + 1 := ⟨k - 1, by omega⟩
      obtain rfl : i = n := by omega
      exact hend k
    | succ d ih =>
      intro k i hd hk
      obtain ⟨k, rfl⟩ : ∃ m, k = m + 1 := ⟨k - 1, by omega⟩
      rw [hstep k i (by omega) (by omega)]
      exact ih k (i + 1) (by omega) (by omega)
  intro k hk
  exact key n k 0 (by omega) (by omega)
theorem rd_get {l : List Int} {i : Nat} (h : i < l.length) : rd l (i : Int) = l[i] := by simp [rd, h]
theorem rdOf_get {α : Type} {z : α} {l : List α} {i : Nat} (h : i < l.length) : rdOf z l (i : Int) = l[i] := by simp [rdOf, h]
theorem wsucc {i n : Nat} (h : i < n) (hn : n ≤ 4611686018427387904) : wrap64 ((i : Int) + 1) = ((i + 1 : Nat) : Int) := by rw [w64 (by omega) (by omega)]; omega
/-! ### CredOk, of the program and of the reference -/
theorem cin_eq (a b c : Int) : impl_in.f a b c = some (decide (b ≤ a ∧ a ≤ c)) := by
  unfold impl_in.f
  by_cases h : a ≥ b <;> simp [h]
theorem sin_eq (a b c : Int) : spec_l6In.f a b c = some (decide (b ≤ a ∧ a ≤ c)) := by
  unfold spec_l6In.f
  by_cases h : a ≥ b <;> simp [h]
theorem user_eq (a : Int) : spec_l5User.f a = some (decide (0 ≤ a ∧ a ≤ 9)) := by
  unfold spec_l5User.f
  rw [sin_eq]; rfl
def crStep (gs : List Int) (i : Nat) : Bool := decide (0 ≤ rd gs i ∧ rd gs i ≤ 9) && (decide (i = 0) || decide (rd gs ((i : Int) - 1) < rd gs i))
def crFrom (u r : Int) (gs : List Int) (i : Nat) : Nat → Bool
  | 0 => decide (0 ≤ u ∧ u ≤ 9) && (decide (0 ≤ r ∧ r ≤ 9) && decide (gs.length ≤ 3))
  | d + 1 => crStep gs i && crFrom u r gs (i + 1) d
def crFine (u r : Int) (gs : List Int) : Bool := crFrom u r gs 0 gs.length
theorem cr_impl (u r : Int) (gs : List Int) (hn : gs.length ≤ 4611686018427387904) (d : Nat) : ∀ (k i : Nat), i + d = gs.length → d < k → impl_CredOk.l0 k gs (gs.length : Int) (i : Int) u r gs = some (crFrom u r gs i d) := by
  induction d with
  | zero =>
    intro k i hi hk
    obtain ⟨k, rfl⟩ : ∃ m, k = m + 1 := ⟨k - 1, by omega⟩
    rw [impl_CredOk.l0, if_neg (by omega), cin_eq, cin_eq]
    simp only [Option.bind_some, crFrom]
    by_cases c1 : 0 ≤ u ∧ u ≤ 9
    · by_cases c2 : 0 ≤ r ∧ r ≤ 9
      · have : ((gs.length : Int) ≤ 3) ↔ gs.length ≤ 3 := by omega
        simp [c1, c2, this]
      · simp [c1, c2]
    · simp [c1]
  | succ d ih =>
    intro k i hi hk
    obtain ⟨k, rfl⟩ : ∃ m, k = m + 1 := ⟨k - 1, by omega⟩
    have e := ih k (i + 1) (by omega) (by omega)
    have w : wrap64 ((i : Int) + 1) = ((i + 1 : Nat) : Int) := wsucc (show i < gs.length by omega) (by omega)
    have w' : wrap64 ((i : Int) - 1) = (i : Int) - 1 := w64 (by omega) (by omega)
    rw [impl_CredOk.l0, if_pos (by omega), if_pos (by omega), if_pos (by omega), w, w', e, cin_eq]
    simp only [Option.bind_some, crFrom, crStep]
    generalize crFrom u r gs (i + 1) d = z
    by_cases c1 : 0 ≤ rd gs (i : Int) ∧ rd gs (i : Int) ≤ 9
    · by_cases c2 : i = 0
      · subst c2
        have c1' : 0 ≤ rd gs 0 ∧ rd gs 0 ≤ 9 := c1
        simp [c1']
      · by_cases c3 : rd gs ((i : Int) - 1) < rd gs (i : Int)
        · rw [if_pos (by simpa using c1), if_pos (by omega), if_pos (by omega), if_pos (by omega), if_neg (by omega)]
          simp [c1, c3]
        · rw [if_pos (by simpa using c1), if_pos (by omega), if_pos (by omega), if_pos (by omega), if_pos (by omega)]
          simp [c2, c3]
    · simp [c1]
theorem cr_spec (u r : Int) (gs : List Int) (hn : gs.length ≤ 4611686018427387904) (d : Nat) : ∀ (k i : Nat), i + d = gs.length → d < k → spec_CredOk.l0 k (i : Int) u r gs = some (crFrom u r gs i d) := by
  induction d with
  | zero =>
    intro k i hi hk
    obtain ⟨k, rfl⟩ : ∃ m, k = m + 1 := ⟨k - 1, by omega⟩
    rw [spec_CredOk.l0, if_neg (by omega), user_eq, user_eq]
    simp only [Option.bind_some, crFrom]
    by_cases c1 : 0 ≤ u ∧ u ≤ 9
    · by_cases c2 : 0 ≤ r ∧ r ≤ 9
      · have : ((gs.length : Int) ≤ 3) ↔ gs.length ≤ 3 := by omega
        simp [c1, c2, this]
      · simp [c1, c2]
    · simp [c1]
  | succ d ih =>
    intro k i hi hk
    obtain ⟨k, rfl⟩ : ∃ m, k = m + 1 := ⟨k - 1, by omega⟩
    have e := ih k (i + 1) (by omega) (by omega)
    have w : wrap64 ((i : Int) + 1) = ((i + 1 : Nat) : Int) := wsucc (show i < gs.length by omega) (by omega)
    have w' : wrap64 ((i : Int) - 1) = (i : Int) - 1 := w64 (by omega) (by omega)
    rw [spec_CredOk.l0, if_pos (by omega), if_pos (by omega), w, w', e, user_eq]
    simp only [Option.bind_some, crFrom, crStep]
    generalize crFrom u r gs (i + 1) d = z
    by_cases c1 : 0 ≤ rd gs (i : Int) ∧ rd gs (i : Int) ≤ 9
    · by_cases c2 : i = 0
      · subst c2
        have c1' : 0 ≤ rd gs 0 ∧ rd gs 0 ≤ 9 := c1
        simp [c1']
      · by_cases c3 : rd gs ((i : Int) - 1) < rd gs (i : Int)
        · rw [if_pos (by simpa using c1), if_pos (by omega), if_pos (by omega), if_pos (by omega), if_neg (by omega)]
          simp [c1, c3]
        · rw [if_pos (by simpa using c1), if_pos (by omega), if_pos (by omega), if_pos (by omega), if_pos (by omega)]
          simp [c2, c3]
    · simp [c1]
theorem credok_impl (u r : Int) (gs : List Int) (hn : gs.length ≤ 4611686018427387904) {k : Nat} (hk : gs.length < k) : impl_CredOk.f k u r gs = some (crFine u r gs) :=
  cr_impl u r gs hn gs.length k 0 (by omega) hk
theorem credok_spec (u r : Int) (gs : List Int) (hn : gs.length ≤ 4611686018427387904) {k : Nat} (hk : gs.length < k) : spec_CredOk.f k u r gs = some (crFine u r gs) :=
  cr_spec u r gs hn gs.length k 0 (by omega) hk
/-! ### how creds are drawn -/
theorem crd3 {v : Int} (v1 : v < 3) : v < (([0, 9, 10] : List Int).length : Int) ∧ v < (([(-1), 10, 9] : List Int).length : Int) := by
  simp; omega
theorem cred_loop {s : List Int} (hb : Bytes s) (hs : s.length ≤ 2000) (u r : Int) (d : Nat) : ∀ (k : Nat) (i : Nat) (p : Int) (gs : List Int), i + d = 5 → 2 * d + 4 < k → gs.length ≤ i → 0 ≤ p → p ≤ 800000000 + i →
    ∃ u' r' gs' p', spec_l91Cred.l0 k (i : Int) s p u r gs = some (u', r', gs', p') ∧ p ≤ p' ∧ p' ≤ p + d + 3 ∧ gs'.length ≤ 10 := by
  have tail : ∀ (k : Nat) (i p : Int) (gs : List Int), 2 ≤ k → gs.length ≤ 5 → 0 ≤ p → p ≤ 800000005 → ∃ u' r' gs' p', spec_l91Cred.j1 k i false s p u r gs = some (u', r', gs', p') ∧ p ≤ p' ∧ p' ≤ p + 3 ∧ gs'.length ≤ 10 := by
    intro k i p gs hk hg hp0 hp1
    obtain ⟨k, rfl⟩ : ∃ m, k = m + 1 := ⟨k - 1, by omega⟩
    obtain ⟨x, hx, _, _, _⟩ := pick_ok hb hs (p := p) hp0 (by omega) 30 (k := k) (by omega)
    obtain ⟨y, hy, y0, y1, _⟩ := pick_ok hb hs (p := p + 1) (by omega) (by omega) 3 (k := k) (by omega)
    have y1 := y1 (by omega)
    have y3 := crd3 y1
    rw [spec_l91Cred.j1, if_neg (by decide), hx]
    simp only [Option.bind_some]
    by_cases c0 : x = 0
    · rw [if_pos c0, hy]; simp only [Option.bind_some]
      rw [if_pos y0, if_pos y3.2]
      exact ⟨_, _, _, _, rfl, by omega, by omega, by omega⟩
    · rw [if_neg c0]
      by_cases c1 : x = 1
      · rw [if_pos c1, hy]; simp only [Option.bind_some]
        rw [if_pos y0, if_pos y3.1, if_pos (by omega)]
        exact ⟨_, _, _, _, rfl, by omega, by omega, by rw [List.length_append]; simp; omega⟩
      · rw [if_neg c1]
        exact ⟨_, _, _, _, rfl, by omega, by omega, by omega⟩
  induction d with
  | zero =>
    intro k i p gs hi hk hg hp0 hp1
    obtain ⟨k, rfl⟩ : ∃ m, k = m + 1 := ⟨k - 1, by omega⟩
    rw [spec_l91Cred.l0, if_neg (by omega)]
    obtain ⟨u', r', gs', p', h, h1, h2, h3⟩ := tail k i p gs (by omega) (by omega) hp0 (by omega)
    exact ⟨u', r', gs', p', h, h1, by omega, h3⟩
  | succ d ih =>
    intro k i p gs hi hk hg hp0 hp1
    obtain ⟨k, rfl⟩ : ∃ m, k = m + 1 := ⟨k - 1, by omega⟩
    rw [spec_l91Cred.l0, if_pos (by omega)]
    by_cases c : (gs.length : Int) < 3
    · rw [decide_eq_true c]
      obtain ⟨k, rfl⟩ : ∃ m, k = m + 1 := ⟨k - 1, by omega⟩
      obtain ⟨x, hx, _, _, _⟩ := pick_ok hb hs (p := p) hp0 (by omega) 4 (k := k) (by omega)
      have w : wrap64 ((i : Int) + 1) = ((i + 1 : Nat) : Int) := wsucc (show i < 10 by omega) (by omega)
      rw [spec_l91Cred.j1, if_pos rfl, hx]
      simp only [Option.bind_some, w]
      by_cases c0 : x = 0
      · rw [if_pos c0, if_pos (by omega)]
        obtain ⟨u', r', gs', p', h, h1, h2, h3⟩ := ih k (i + 1) (p + 1) (gs ++ [(i : Int)]) (by omega) (by omega) (by rw [List.length_append]; simp; omega) (by omega) (by omega)
        exact ⟨u', r', gs', p', h, by omega, by omega, h3⟩
      · rw [if_neg c0]
        obtain ⟨u', r', gs', p', h, h1, h2, h3⟩ := ih k (i + 1) (p + 1) gs (by omega) (by omega) (by omega) (by omega) (by omega)
        exact ⟨u', r', gs', p', h, by omega, by omega, h3⟩
    · rw [decide_eq_false c]
      obtain ⟨u', r', gs', p', h, h1, h2, h3⟩ := tail k i p gs (by omega) (by omega) hp0 (by omega)
      exact ⟨u', r', gs', p', h, h1, by omega, h3⟩
theorem cred_ok {s : List Int} (hb : Bytes s) (hs : s.length ≤ 2000) {p : Int} (hp0 : 0 ≤ p) (hp1 : p ≤ 700000000) {k : Nat} (hk : 16 ≤ k) :
    ∃ u r gs p', spec_l91Cred.f k s p = some (u, r, gs, p') ∧ p ≤ p' ∧ p' ≤ p + 12 ∧ gs.length ≤ 10 := by
  obtain ⟨u, hu, _, _, _⟩ := pick_ok hb hs (p := p) hp0 (by omega) 4 (k := k) (by omega)
  obtain ⟨r, hr, _, _, _⟩ := pick_ok hb hs (p := p + 1) (by omega) (by omega) 4 (k := k) (by omega)
  unfold spec_l91Cred.f
  rw [hu]; simp only [Option.bind_some]
  rw [hr]; simp only [Option.bind_some]
  obtain ⟨u', r', gs', p', h, h1, h2, h3⟩ := cred_loop hb hs u r 5 k 0 (p + 1 + 1) [] (by omega) (by omega) (by simp) (by omega) (by omega)
  exact ⟨u', r', gs', p', h, by omega, by omega, h3⟩
/-! ### how modes are drawn -/
theorem mode_ok {s : List Int} (hb : Bytes s) (hs : s.length ≤ 2000) {p : Int} (hp0 : 0 ≤ p) (hp1 : p ≤ 800000000) {k : Nat} (hk : 1 ≤ k) : ∃ m p', spec_l91Mode.f k s p = some (m, p') ∧ p ≤ p' ∧ p' ≤ p + 10 := by
  obtain ⟨v, hv, v0, v1, _⟩ := pick_ok hb hs hp0 (by omega) 20 (k := k) hk
  unfold spec_l91Mode.f
  rw [hv]; simp only [Option.bind_some]
  by_cases c : v = 0
  · rw [if_pos c]
    obtain ⟨a, ha, a0, a1, _⟩ := pick_ok hb hs (p := p + 1) (by omega) (by omega) 3 (k := k) hk
    have a1 := a1 (by omega)
    rw [ha]; simp only [Option.bind_some]
    rw [if_pos a0, if_pos (by simpa using a1)]
    exact ⟨_, _, rfl, by omega, by omega⟩
  · rw [if_neg c]
    obtain ⟨a, ha, _, _, _⟩ := pick_ok hb hs (p := p + 1) (by omega) (by omega) 8 (k := k) hk
    obtain ⟨b, hb', _, _, _⟩ := pick_ok hb hs (p := p + 1 + 1) (by omega) (by omega) 64 (k := k) hk
    obtain ⟨d, hd, _, _, _⟩ := pick_ok hb hs (p := p + 1 + 1 + 1) (by omega) (by omega) 8 (k := k) hk
    obtain ⟨e, he, e0, e1, _⟩ := pick_ok hb hs (p := p + 1 + 1 + 1 + 1) (by omega) (by omega) 7 (k := k) hk
    have e1 := e1 (by omega)
    rw [ha]; simp only [Option.bind_some]
    rw [hb']; simp only [Option.bind_some]
    rw [hd]; simp only [Option.bind_some]
    rw [he]; simp only [Option.bind_some]
    rw [if_pos e0, if_pos (by simpa using e1)]
    exact ⟨_, _, rfl, by omega, by omega⟩
/-! ### ModeMay, of the program and of the reference -/
def memFrom (gs : List Int) (x : Int) (i : Nat) : Nat → Bool
  | 0 => false
  | d + 1 => decide (rd gs (i : Int) = x) || memFrom gs x (i + 1) d
theorem index_ok (gs : List Int) (x : Int) (hn : gs.length ≤ 4611686018427387904) (d : Nat) : ∀ (k i : Nat), i + d = gs.length → d < k → ∃ j, slices_Index_int_int.l0 k gs x (gs.length : Int) (i : Int) = some j ∧ decide (j ≥ 0) = memFrom gs x i d := by
  induction d with
  | zero =>
    intro k i hi hk
    obtain ⟨k, rfl⟩ : ∃ m, k = m + 1 := ⟨k - 1, by omega⟩
    rw [slices_Index_int_int.l0, if_neg (by omega)]
    exact ⟨_, rfl, rfl⟩
  | succ d ih =>
    intro k i hi hk
    obtain ⟨k, rfl⟩ : ∃ m, k = m + 1 := ⟨k - 1, by omega⟩
    have w : wrap64 ((i : Int) + 1) = ((i + 1 : Nat) : Int) := wsucc (show i < gs.length by omega) (by omega)
    rw [slices_Index_int_int.l0, if_pos (by omega), if_pos (by omega), if_pos (by omega), w]
    by_cases c : x = rd gs (i : Int)
    · rw [if_pos c]
      refine ⟨_, rfl, ?_⟩
      have : (i : Int) ≥ 0 := by omega
      simp only [memFrom]
      rw [decide_eq_true this, decide_eq_true c.symm]; rfl
    · rw [if_neg c]
      obtain ⟨j, h1, h2⟩ := ih k (i + 1) (by omega) (by omega)
      refine ⟨j, h1, ?_⟩
      simp only [memFrom]
      rw [h2, decide_eq_false (fun h => c h.symm)]; rfl
theorem in_ok (gs : List Int) (x : Int) (hn : gs.length ≤ 4611686018427387904) (d : Nat) : ∀ (k i : Nat), i + d = gs.length → d < k → spec_l5In.l0 k gs x (i : Int) = some (memFrom gs x i d) := by
  induction d with
  | zero =>
    intro k i hi hk
    obtain ⟨k, rfl⟩ : ∃ m, k = m + 1 := ⟨k - 1, by omega⟩
    rw [spec_l5In.l0, if_neg (by omega)]; rfl
  | succ d ih =>
    intro k i hi hk
    obtain ⟨k, rfl⟩ : ∃ m, k = m + 1 := ⟨k - 1, by omega⟩
    have w : wrap64 ((i : Int) + 1) = ((i + 1 : Nat) : Int) := wsucc (show i < gs.length by omega) (by omega)
    rw [spec_l5In.l0, if_pos (by omega), if_pos (by omega), w, ih k (i + 1) (by omega) (by omega)]
    simp only [memFrom]
    by_cases c : rd gs (i : Int) = x
    · rw [if_pos c, decide_eq_true c]; rfl
    · rw [if_neg c, decide_eq_false c]; rfl
def digB (d w : Int) : Bool := Go.bits .and .i64 d w == w
def userB (m w : Int) : Bool := if wrap64 (wrap64 (m.tmod 2 + (wrap64 (m.tdiv 8)).tmod 2) + (wrap64 (m.tdiv 64)).tmod 2) > 0 then digB 7 w else digB 6 w
theorem digit_all : ∀ m : Fin 512, impl_bits_digit.f (m.val : Int) 0 = some (wrap64 ((m.val : Int).tdiv 64)) ∧ impl_bits_digit.f (m.val : Int) 1 = some ((wrap64 ((m.val : Int).tdiv 8)).tmod 8) ∧ impl_bits_digit.f (m.val : Int) 2 = some ((m.val : Int).tmod 8) := by
  decide +kernel
theorem user_all : ∀ m : Fin 512, ∀ w : Fin 8, 1 ≤ w.val →
    userB (m.val : Int) (w.val : Int) = (if Go.bits .and .i64 (w.val : Int) 1 = 0 then true else (Go.bits .and .i64 (Go.bits .or .i64 (Go.bits .or .i64 (wrap64 ((m.val : Int).tdiv 64)) ((wrap64 ((m.val : Int).tdiv 8)).tmod 8)) ((m.val : Int).tmod 8)) 1 == 1)) := by
  decide +kernel
def mayCore (u o : Int) (gs : List Int) (g m w : Int) : Bool :=
  if u = 0 then userB m w else if u = o then digB (wrap64 (m.tdiv 64)) w else if memFrom gs g 0 gs.length = true then digB ((wrap64 (m.tdiv 8)).tmod 8) w else digB (m.tmod 8) w
def mayB (u r : Int) (gs : List Int) (o g m w : Int) : Bool :=
  crFine u r gs && (decide (0 ≤ o ∧ o ≤ 9) && (decide (0 ≤ g ∧ g ≤ 9) && (decide (0 ≤ m ∧ m ≤ 511) && (decide (1 ≤ w ∧ w ≤ 7) && mayCore u o gs g m w))))
theorem may_spec (u r : Int) (gs : List Int) (o g m w : Int) (hn : gs.length ≤ 4611686018427387904) {k : Nat} (hk : gs.length < k) : spec_ModeMay.f k u r gs o g m w = some (mayB u r gs o g m w) := by
  have hl : spec_l5May.f k u r gs o g m w = some (mayCore u o gs g m w) := by
    unfold spec_l5May.f mayCore
    by_cases c1 : u = 0
    · rw [if_pos c1, if_pos c1]; unfold userB digB
      split <;> rfl
    · rw [if_neg c1, if_neg c1]
      by_cases c2 : u = o
      · rw [if_pos c2, if_pos c2]; rfl
      · rw [if_neg c2, if_neg c2]
        have := in_ok gs g hn gs.length k 0 (by omega) hk
        unfold spec_l5In.f
        rw [show ((0 : Nat) : Int) = 0 from rfl] at this
        rw [this]; simp only [Option.bind_some]
        split <;> rfl
  unfold spec_ModeMay.f mayB
  rw [credok_spec u r gs hn hk]
  simp only [Option.bind_some, user_eq, sin_eq, hl]
  generalize crFine u r gs = a
  generalize mayCore u o gs g m w = z
  by_cases c2 : 0 ≤ o ∧ o ≤ 9
  · by_cases c3 : 0 ≤ g ∧ g ≤ 9
    · by_cases c4 : 0 ≤ m ∧ m ≤ 511
      · by_cases c5 : 1 ≤ w ∧ w ≤ 7
        · cases a <;> simp [c2, c3, c4, c5]
        · cases a <;> simp [c2, c3, c4, c5]
      · cases a <;> simp [c2, c3, c4]
    · cases a <;> simp [c2, c3]
  · cases a <;> simp [c2]
theorem may_impl (u r : Int) (gs : List Int) (o g m w : Int) (hn : gs.length ≤ 4611686018427387904) {k : Nat} (hk : gs.length + 1 < k) : impl_ModeMay.f k u r gs o g m w = some (mayB u r gs o g m w) := by
  have hbad : ∀ k, impl_ModeMay.j0 (k + 1) o g m w true u r gs = some false := fun k => by rw [impl_ModeMay.j0, if_pos rfl]
  obtain ⟨k, rfl⟩ : ∃ n, k = n + 1 := ⟨k - 1, by omega⟩
  have hgood : 0 ≤ m ∧ m ≤ 511 → 1 ≤ w ∧ w ≤ 7 → impl_ModeMay.j0 (k + 1) o g m w false u r gs = some (mayCore u o gs g m w) := by
    intro hm hw
    rw [impl_ModeMay.j0, if_neg (by decide)]
    obtain ⟨m', rfl⟩ : ∃ m' : Fin 512, (m'.val : Int) = m := ⟨⟨m.toNat, by omega⟩, by simp; omega⟩
    obtain ⟨w', rfl⟩ : ∃ w' : Fin 8, (w'.val : Int) = w := ⟨⟨w.toNat, by omega⟩, by simp; omega⟩
    obtain ⟨d0, d1, d2⟩ := digit_all m'
    have hu := user_all m' w' (by omega)
    rw [d0, d1, d2]
    simp only [Option.bind_some]
    unfold mayCore
    by_cases c1 : u = 0
    · rw [if_pos c1, if_pos c1, hu]
      split <;> rfl
    · rw [if_neg c1, if_neg c1]
      by_cases c2 : u = o
      · rw [if_pos c2, if_pos c2]; rfl
      · rw [if_neg c2, if_neg c2]
        obtain ⟨j, hj, hj2⟩ := index_ok gs g hn gs.length k 0 (by omega) (by omega)
        unfold slices_Contains_int_int.f slices_Index_int_int.f
        rw [show ((0 : Nat) : Int) = 0 from rfl] at hj
        rw [hj]; simp only [Option.bind_some]
        rw [hj2]
        split <;> rfl
  unfold impl_ModeMay.f mayB
  rw [credok_impl u r gs hn (by omega)]
  simp only [Option.bind_some, cin_eq]
  by_cases c1 : crFine u r gs = true
  · rw [if_pos c1, c1]
    by_cases c2 : 0 ≤ o ∧ o ≤ 9
    · rw [if_pos (decide_eq_true c2), decide_eq_true c2]
      by_cases c3 : 0 ≤ g ∧ g ≤ 9
      · rw [if_pos (decide_eq_true c3), decide_eq_true c3]
        by_cases c4 : 0 ≤ m ∧ m ≤ 511
        · rw [if_pos (decide_eq_true c4), decide_eq_true c4]
          by_cases c5 : 1 ≤ w ∧ w ≤ 7
          · rw [decide_eq_true c5]
            show impl_ModeMay.j0 (k + 1) o g m w false u r gs = _
            rw [hgood c4 c5]; simp
          · rw [decide_eq_false c5]
            show impl_ModeMay.j0 (k + 1) o g m w true u r gs = _
            rw [hbad]; simp
        · rw [if_neg (by rw [decide_eq_false c4]; decide), decide_eq_false c4, hbad]; simp
      · rw [if_neg (by rw [decide_eq_false c3]; decide), decide_eq_false c3, hbad]; simp
    · rw [if_neg (by rw [decide_eq_false c2]; decide), decide_eq_false c2, hbad]; simp
  · rw [if_neg c1]
    have : crFine u r gs = false := by simpa using c1
    rw [this, hbad]; simp
theorem drawmay_ok {l0 : List Int} (hwf : ∀ x ∈ l0, (Lit.int .u8 x).wf = true) {k : Nat} (hk : 16 ≤ k) : ∃ u r gs o g m w, spec_DrawModeMay.f k l0 = some (u, r, gs, o, g, m, w) ∧ gs.length ≤ 10 ∧ (0 ≤ o ∧ o ≤ 9) ∧ (0 ≤ g ∧ g ≤ 9) := by
  obtain ⟨s, ho, hb, hs⟩ := open_ok (bytes_of_wf hwf)
  obtain ⟨u, r, gs, p, h1, p0, p1, hn⟩ := cred_ok hb hs (p := 0) (by omega) (by omega) (k := k) (by omega)
  obtain ⟨o, h2, o0, o1, _⟩ := pick_ok hb hs (p := p) (by omega) (by omega) 5 (k := k) (by omega)
  obtain ⟨g, h3, g0, g1, _⟩ := pick_ok hb hs (p := p + 1) (by omega) (by omega) 5 (k := k) (by omega)
  obtain ⟨m, q, h4, q0, q1⟩ := mode_ok hb hs (p := p + 1 + 1) (by omega) (by omega) (k := k) (by omega)
  obtain ⟨w, h5, w0, w1, _⟩ := pick_ok hb hs (p := q) (by omega) (by omega) 9 (k := k) (by omega)
  have o1 := o1 (by omega)
  have g1 := g1 (by omega)
  refine ⟨u, r, gs, o, g, m, w, ?_, hn, ⟨o0, by omega⟩, g0, by omega⟩
  unfold spec_DrawModeMay.f
  rw [ho]; simp only [Option.bind_some]
  rw [h1]; simp only [Option.bind_some]
  rw [h2]; simp only [Option.bind_some]
  rw [h3]; simp only [Option.bind_some]
  rw [h4]; simp only [Option.bind_some]
  rw [h5]; simp only [Option.bind_some]

theorem dig_each : ∀ d : Fin 8, ∀ w : Fin 8, 1 ≤ w.val →
    digB (d.val : Int) (w.val : Int) = ((if Int.tmod (wrap64 ((w.val : Int).tdiv 4)) 2 = 1 then digB (d.val : Int) 4 else true) && ((if Int.tmod (wrap64 ((w.val : Int).tdiv 2)) 2 = 1 then digB (d.val : Int) 2 else true) && (if Int.tmod (wrap64 ((w.val : Int).tdiv 1)) 2 = 1 then digB (d.val : Int) 1 else true))) := by
  decide +kernel
theorem digits8 : ∀ m : Fin 512, ∃ a b c : Fin 8, wrap64 ((m.val : Int).tdiv 64) = (a.val : Int) ∧ (wrap64 ((m.val : Int).tdiv 8)).tmod 8 = (b.val : Int) ∧ (m.val : Int).tmod 8 = (c.val : Int) := by
  intro m
  have hm := m.isLt
  have e1 : (m.val : Int).tdiv 64 = (m.val : Int) / 64 := Int.tdiv_eq_ediv_of_nonneg (by omega)
  have e2 : (m.val : Int).tdiv 8 = (m.val : Int) / 8 := Int.tdiv_eq_ediv_of_nonneg (by omega)
  have e3 : (m.val : Int).tmod 8 = (m.val : Int) % 8 := Int.tmod_eq_emod_of_nonneg (by omega)
  have w1 : wrap64 ((m.val : Int) / 64) = (m.val : Int) / 64 := w64 (by omega) (by omega)
  have w2 : wrap64 ((m.val : Int) / 8) = (m.val : Int) / 8 := w64 (by omega) (by omega)
  have e4 : ((m.val : Int) / 8).tmod 8 = ((m.val : Int) / 8) % 8 := Int.tmod_eq_emod_of_nonneg (by omega)
  rw [e1, e2, e3, w1, w2, e4]
  exact ⟨⟨m.val / 64, by omega⟩, ⟨m.val / 8 % 8, by omega⟩, ⟨m.val % 8, by omega⟩, by simp, by simp, by simp⟩
theorem core_dig (u o : Int) (gs : List Int) (g : Int) (m : Fin 512) : ∃ d : Fin 8, (u = 0 → 6 ≤ d.val) ∧ ∀ w, mayCore u o gs g (m.val : Int) w = digB (d.val : Int) w := by
  obtain ⟨a, b, c, ha, hb, hc⟩ := digits8 m
  unfold mayCore
  by_cases c0 : u = 0
  · simp only [if_pos c0]
    unfold userB
    split
    · exact ⟨7, fun _ => by decide, fun _ => rfl⟩
    · exact ⟨6, fun _ => by decide, fun _ => rfl⟩
  · simp only [if_neg c0]
    by_cases c1 : u = o
    · simp only [if_pos c1]
      exact ⟨a, fun h => absurd h c0, fun w => by rw [ha]⟩
    · simp only [if_neg c1]
      by_cases c2 : memFrom gs g 0 gs.length = true
      · simp only [if_pos c2]
        exact ⟨b, fun h => absurd h c0, fun w => by rw [hb]⟩
      · simp only [if_neg c2]
        exact ⟨c, fun h => absurd h c0, fun w => by rw [hc]⟩

theorem FnModeMay : BdFnModeMay.Pure := by
  intro l0 ⟨_, hwf⟩
  refine ⟨100, ?_⟩
  unfold laws_FnModeMay.f
  by_cases hl : (l0.length : Int) > 1048576
  · rw [if_pos hl]
  · rw [if_neg hl]
    obtain ⟨u, r, gs, o, g, m, w, hd, hn, ho, hg⟩ := drawmay_ok hwf (k := 100) (by omega)
    rw [hd]; simp only [Option.bind_some]
    rw [may_impl u r gs o g m w (by omega) (by omega), may_spec u r gs o g m w (by omega) (by omega), credok_impl u r gs (by omega) (by omega)]
    simp only [Option.bind_some, beq_self_eq_true, if_true]
    have over : ∀ k b, laws_FnModeMay.j0 (k + 1) o g m w b true true u r gs = some true := fun k b => by rw [laws_FnModeMay.j0, if_pos rfl]
    by_cases c1 : crFine u r gs = true
    · rw [if_pos c1]
      by_cases c2 : w ≥ 1
      · rw [if_pos c2]
        by_cases c3 : w ≤ 7
        · rw [if_pos c3]
          by_cases c4 : m ≥ 0
          · rw [if_pos c4]
            by_cases c5 : m ≤ 511
            · rw [decide_eq_true c5]
              show laws_FnModeMay.j0 (99 + 1) o g m w _ true false u r gs = some true
              rw [laws_FnModeMay.j0, if_neg (by decide)]
              obtain ⟨m', rfl⟩ : ∃ m' : Fin 512, (m'.val : Int) = m := ⟨⟨m.toNat, by omega⟩, by simp; omega⟩
              obtain ⟨w', rfl⟩ : ∃ w' : Fin 8, (w'.val : Int) = w := ⟨⟨w.toNat, by omega⟩, by simp; omega⟩
              obtain ⟨d, hd6, hcore⟩ := core_dig u o gs g m'
              have full : ∀ x, 1 ≤ x ∧ x ≤ 7 → mayB u r gs o g (m'.val : Int) x = digB (d.val : Int) x := by
                intro x hx
                have hm : (m'.val : Int) ≤ 511 := c5
                have hm0 : (0 : Int) ≤ m'.val := c4
                unfold mayB
                rw [c1, decide_eq_true ho, decide_eq_true hg, decide_eq_true (⟨hm0, hm⟩ : (0 : Int) ≤ m'.val ∧ (m'.val : Int) ≤ 511), decide_eq_true hx, hcore]; rfl
              have each := dig_each d w' (by omega)
              have call : ∀ x (k : Nat), 1 ≤ x ∧ x ≤ 7 → 50 ≤ k → impl_ModeMay.f k u r gs o g (m'.val : Int) x = some (digB (d.val : Int) x) := by
                intro x k hx hk
                rw [may_impl u r gs o g (m'.val : Int) x (by omega) (by omega), full x hx]
              have s1 : wrap64 (1 * 2) = 2 := w64 (by omega) (by omega)
              have s2 : wrap64 (2 * 2) = 4 := w64 (by omega) (by omega)
              have s4 : wrap64 (4 * 2) = 8 := w64 (by omega) (by omega)
              have step : ∀ (k : Nat) (x x2 : Int) (a : Bool), 50 ≤ k → (1 ≤ x ∧ x ≤ 4) → wrap64 (x * 2) = x2 →
                  laws_FnModeMay.l0 (k + 1) o g (m'.val : Int) (w'.val : Int) (mayB u r gs o g (m'.val : Int) (w'.val : Int)) a x u r gs = laws_FnModeMay.l0 k o g (m'.val : Int) (w'.val : Int) (mayB u r gs o g (m'.val : Int) (w'.val : Int)) (a && (if Int.tmod (wrap64 ((w'.val : Int).tdiv x)) 2 = 1 then digB (d.val : Int) x else true)) x2 u r gs := by
                intro k x x2 a hk hx hx2
                rw [laws_FnModeMay.l0, if_pos hx.2, if_neg (by omega), hx2]
                by_cases c : Int.tmod (wrap64 ((w'.val : Int).tdiv x)) 2 = 1
                · rw [if_pos c, if_pos c]
                  cases a with
                  | true => rw [if_pos rfl, call x k ⟨by omega, by omega⟩ hk]; simp
                  | false => rw [if_neg (by decide)]; simp
                · rw [if_neg c, if_neg c]; simp
              rw [step 98 1 2 true (by omega) (by omega) s1, step 97 2 4 _ (by omega) (by omega) s2, step 96 4 8 _ (by omega) (by omega) s4]
              rw [laws_FnModeMay.l0, if_neg (by omega), full (w'.val : Int) ⟨by omega, by omega⟩, each]
              generalize (if Int.tmod (wrap64 ((w'.val : Int).tdiv 4)) 2 = 1 then digB (d.val : Int) 4 else true) = b4
              generalize (if Int.tmod (wrap64 ((w'.val : Int).tdiv 2)) 2 = 1 then digB (d.val : Int) 2 else true) = b2
              generalize (if Int.tmod (wrap64 ((w'.val : Int).tdiv 1)) 2 = 1 then digB (d.val : Int) 1 else true) = b1
              have hb : ((b4 && (b2 && b1)) == (((true && b1) && b2) && b4)) = true := by cases b4 <;> cases b2 <;> cases b1 <;> rfl
              rw [if_pos hb]
              by_cases c0 : u = 0
              · rw [if_pos c0, call 6 95 ⟨by omega, by omega⟩ (by omega)]
                have h6 : ∀ d : Fin 8, 6 ≤ d.val → digB (d.val : Int) 6 = true := by decide +kernel
                rw [h6 d (hd6 c0)]; rfl
              · rw [if_neg c0]
            · rw [decide_eq_false c5]; exact over 99 _
          · rw [if_neg c4]; exact over 99 _
        · rw [if_neg c3]; exact over 99 _
      · rw [if_neg c2]; exact over 99 _
    · rw [if_neg c1]; exact over 99 _

end Go.Proofs.Ytjokfjjdachpiaa.Pure
