/- One may send to oneself: at every code. -/
import Derived.Test.YtjokfjjdachpiaaBdFnCredSignal
import Derived.WideShapes
import Derived.IntWalk
import Derived.OpenShut
namespace Go.Proofs.Ytjokfjjdachpiaa.Pure
open Go.RowKit Go.Proofs.Ytjokfjjdachpiaa.XFnCredSignal Go.Proofs.YtjokfjjdachpiaaW.PrintWords Go.Proofs.YtjokfjjdachpiaaW.PrintLast
/-! ### small facts on numbers, bytes and rounds -/
theorem w64 {n : Int} (h1 : -9223372036854775808 ≤ n) (h2 : n ≤ 9223372036854775807) : wrap64 n = n := by unfold wrap64; omega
theorem w64_range (n : Int) : -9223372036854775808 ≤ wrap64 n ∧ wrap64 n ≤ 9223372036854775807 := by unfold wrap64; omega
theorem xor_ok {x y : Int} (hx : 0 ≤ x) (hx2 : x < 4611686018427387904) (hy : 0 ≤ y) (hy2 : y < 4611686018427387904) : 0 ≤ Go.bits .xor .i64 x y ∧ Go.bits .xor .i64 x y < 4611686018427387904 := by
  have h1 : (BitVec.ofInt 64 x ^^^ BitVec.ofInt 64 y).toNat < 2 ^ 62 := by
    rw [BitVec.toNat_xor]
    apply Nat.xor_lt_two_pow
    · rw [BitVec.toNat_ofInt]; omega
    · rw [BitVec.toNat_ofInt]; omega
  have h2 : Go.bits .xor .i64 x y = ((BitVec.ofInt 64 x ^^^ BitVec.ofInt 64 y).toNat : Int) := by
    show IntKind.wrap .i64 ((BitVec.ofInt 64 x ^^^ BitVec.ofInt 64 y).toNat : Int) = _
    generalize (BitVec.ofInt 64 x ^^^ BitVec.ofInt 64 y).toNat = m at h1
    exact IntWalk.i64_in _ (by omega)
  rw [h2]; omega
theorem tmod_ok {x n : Int} (hx : 0 ≤ x) (hn : 1 ≤ n) : 0 ≤ Int.tmod x n ∧ Int.tmod x n < n := by
  rw [Int.tmod_eq_emod_of_nonneg hx]
  exact ⟨Int.emod_nonneg _ (by omega), Int.emod_lt_of_pos _ (by omega)⟩
theorem tdiv_ok {x n : Int} (hx : 0 ≤ x) (hn : 1 ≤ n) : 0 ≤ Int.tdiv x n ∧ Int.tdiv x n ≤ x := by
  rw [Int.tdiv_eq_ediv_of_nonneg hx]
  exact ⟨Int.ediv_nonneg hx (by omega), Int.ediv_le_self _ hx⟩
theorem rd_mem {xs : List Int} {i : Int} (h0 : 0 ≤ i) (h1 : i < (xs.length : Int)) : rd xs i ∈ xs := by
  have hl : i.toNat < xs.length := by omega
  unfold rd
  rw [List.getD_eq_getElem?_getD, List.getElem?_eq_getElem hl]
  exact List.getElem_mem hl
def Bytes (s : List Int) : Prop := ∀ x ∈ s, 0 ≤ x ∧ x ≤ 255
theorem bytes_of_wf {s : List Int} (h : ∀ x ∈ s, (Lit.int .u8 x).wf = true) : Bytes s := fun x hx => Go.bounds_u8 (h x hx)
theorem bytes_rd {s : List Int} (h : Bytes s) {i : Int} (h0 : 0 ≤ i) (h1 : i < (s.length : Int)) : 0 ≤ rd s i ∧ rd s i ≤ 255 := h _ (rd_mem h0 h1)
theorem toList_inj {a b : ByteArray} : a.toList = b.toList ↔ a = b := by
  rw [ByteArray.toList_eq, ByteArray.toList_eq]
  constructor
  · intro h; exact Go.WideShapes.bytes_inj h
  · rintro rfl; rfl
theorem toList_nil {a : ByteArray} : a.toList = ([] : List UInt8) ↔ a.size = 0 := by
  rw [ByteArray.toList_eq, List.eq_nil_iff_length_eq_zero, data_length]
/-! ### the reader of a code: l6Open, pick -/
theorem open_ok {l0 : List Int} (hb : Bytes l0) : ∃ s, spec_l6Open.f l0 = some (s, 0) ∧ Bytes s ∧ s.length ≤ 2000 := by
  unfold spec_l6Open.f
  by_cases h : (l0.length : Int) > 2000
  · rw [if_pos h, if_pos (by omega)]
    exact ⟨_, rfl, fun x hx => hb x (List.mem_of_mem_take hx), by rw [List.length_take]; omega⟩
  · rw [if_neg h]
    exact ⟨_, rfl, hb, by omega⟩
theorem pick_ok {s : List Int} (hb : Bytes s) (hs : s.length ≤ 2000) {p : Int} (hp0 : 0 ≤ p) (hp1 : p ≤ 1000000000) (n : Int) {k : Nat} (hk : 1 ≤ k) :
    ∃ v, spec_l6Rd_pick.f k s p n = some (v, p + 1) ∧ 0 ≤ v ∧ (1 ≤ n → v < n) ∧ (n < 1 → v = 0) := by
  obtain ⟨k, rfl⟩ : ∃ m, k = m + 1 := ⟨k - 1, by omega⟩
  have e1 : wrap64 (p + 1) = p + 1 := w64 (by omega) (by omega)
  have e2 : wrap64 (p + 1 - 1) = p := by rw [show p + 1 - 1 = p by omega]; exact w64 (by omega) (by omega)
  unfold spec_l6Rd_pick.f
  by_cases hn : n < 1
  · rw [if_pos hn]; simp only [spec_l6Rd_pick.j0, if_true, e1]
    exact ⟨0, rfl, by omega, by omega, fun _ => rfl⟩
  · rw [if_neg hn]; simp only [spec_l6Rd_pick.j0, e1, e2]
    by_cases h0 : (s.length : Int) = 0
    · have : ((s.length : Int) == 0) = true := by simp [h0]
      rw [this, if_pos rfl]
      exact ⟨0, rfl, by omega, by omega, fun _ => rfl⟩
    · have : ((s.length : Int) == 0) = false := by simpa using h0
      rw [this, if_neg (by decide)]
      by_cases hl : p < (s.length : Int)
      · rw [if_pos hl, if_pos hp0, if_neg (by omega)]
        have hr := bytes_rd hb hp0 hl
        rw [w64 (n := rd s p) (by omega) (by omega)]
        have ht := tmod_ok hr.1 (show 1 ≤ n by omega)
        exact ⟨_, rfl, ht.1, fun _ => ht.2, by omega⟩
      · rw [if_neg hl, if_neg h0]
        have a1 := tmod_ok (x := p) (n := (s.length : Int)) hp0 (by omega)
        rw [if_pos a1.1, if_pos a1.2]
        have e3 : wrap64 (p * 7) = p * 7 := w64 (by omega) (by omega)
        have e4 : wrap64 (p * 7 + 3) = p * 7 + 3 := w64 (by omega) (by omega)
        simp only [e3, e4]
        have a2 := tmod_ok (x := p * 7 + 3) (n := (s.length : Int)) (by omega) (by omega)
        rw [if_pos a2.1, if_pos a2.2, if_neg (by omega)]
        have b1 := bytes_rd hb a1.1 a1.2
        have b2 := bytes_rd hb a2.1 a2.2
        have a3 := tdiv_ok (x := p) (n := (s.length : Int)) hp0 (by omega)
        generalize rd s (p.tmod (s.length : Int)) = x1 at b1 ⊢
        generalize rd s ((p * 7 + 3).tmod (s.length : Int)) = x2 at b2 ⊢
        generalize p.tdiv (s.length : Int) = x3 at a3 ⊢
        have c1 : wrap64 x1 = x1 := w64 (by omega) (by omega)
        have c2 : wrap64 x2 = x2 := w64 (by omega) (by omega)
        have c3 : wrap64 x3 = x3 := w64 (by omega) (by omega)
        have c4 : wrap64 (x1 * 131) = x1 * 131 := w64 (by omega) (by omega)
        have c5 : wrap64 (x2 * 1117) = x2 * 1117 := w64 (by omega) (by omega)
        have c6 : wrap64 (x1 * 131 + x2 * 1117) = x1 * 131 + x2 * 1117 := w64 (by omega) (by omega)
        have c7 : wrap64 (p * 29) = p * 29 := w64 (by omega) (by omega)
        have c8 : wrap64 (x1 * 131 + x2 * 1117 + p * 29) = x1 * 131 + x2 * 1117 + p * 29 := w64 (by omega) (by omega)
        have c9 : wrap64 (x3 * 53) = x3 * 53 := w64 (by omega) (by omega)
        have c10 : wrap64 (x1 * 131 + x2 * 1117 + p * 29 + x3 * 53) = x1 * 131 + x2 * 1117 + p * 29 + x3 * 53 := w64 (by omega) (by omega)
        simp only [c1, c2, c3, c4, c5, c6, c7, c8, c9, c10]
        have a4 := tdiv_ok (x := x1 * 131 + x2 * 1117 + p * 29 + x3 * 53) (n := 64) (by omega) (by omega)
        have c11 : wrap64 ((x1 * 131 + x2 * 1117 + p * 29 + x3 * 53).tdiv 64) = (x1 * 131 + x2 * 1117 + p * 29 + x3 * 53).tdiv 64 := w64 (by omega) (by omega)
        rw [c11]
        have a5 := xor_ok (x := x1 * 131 + x2 * 1117 + p * 29 + x3 * 53) (y := (x1 * 131 + x2 * 1117 + p * 29 + x3 * 53).tdiv 64) (by omega) (by omega) a4.1 (by omega)
        have a6 := tmod_ok a5.1 (show 1 ≤ n by omega)
        exact ⟨_, rfl, a6.1, fun _ => a6.2, by omega⟩
/-! ### rows that are copied, and rows that are held against themselves -/
theorem to_gen {β : Type} {l0 : Nat → List β → Int → Option (List β)} (xs : List β) (K : Nat)
    (hstep : ∀ (k : Nat) (acc : List β) (i : Nat) (hi : i < xs.length), K ≤ k → acc.length = xs.length → l0 (k + 1) acc (i : Int) = l0 k (acc.set i (xs[i]'hi)) ((i + 1 : Nat) : Int))
    (hend : ∀ (k : Nat) (acc : List β), l0 (k + 1) acc (xs.length : Int) = some acc) :
    ∀ (k : Nat) (acc : List β), acc.length = xs.length → xs.length + K < k → l0 k acc 0 = some xs := by
  have key : ∀ (d : Nat) (k : Nat) (acc : List β) (i : Nat), i + d = xs.length → d + K < k → acc.length = xs.length → (∀ j, j < i → acc[j]? = xs[j]?) → l0 k acc (i : Int) = some xs := by
    intro d
    induction d with
    | zero =>
      intro k acc i hd hk hl hj
      obtain ⟨k, rfl⟩ : ∃ m, k = m + 1 := ⟨k - 1, by omega⟩
      obtain rfl : i = xs.length := by omega
      rw [hend]
      congr 1
      apply List.ext_getElem?
      intro j
      by_cases h : j < xs.length
      · exact hj j h
      · rw [List.getElem?_eq_none (by omega), List.getElem?_eq_none (by omega)]
    | succ d ih =>
      intro k acc i hd hk hl hj
      obtain ⟨k, rfl⟩ : ∃ m, k = m + 1 := ⟨k - 1, by omega⟩
      have hi : i < xs.length := by omega
      rw [hstep k acc i hi (by omega) hl]
      refine ih k _ (i + 1) (by omega) (by omega) (by rw [List.length_set]; exact hl) (fun j hjl => ?_)
      by_cases e : j = i
      · subst e
        rw [List.getElem?_set_self (by omega), List.getElem?_eq_getElem hi]
      · rw [List.getElem?_set_ne (by omega)]
        exact hj j (by omega)
  intro k acc hl hk
  exact key xs.length k acc 0 (by omega) (by omega) hl (fun j hj => absurd hj (Nat.not_lt_zero j))
theorem eq_gen {l0 : Nat → Int → Option Bool} (n : Nat) (K : Nat)
    (hstep : ∀ (k : Nat) (i : Nat), i < n → K ≤ k → l0 (k + 1) (i : Int) = l0 k ((i + 1 : Nat) : Int)) (hend : ∀ (k : Nat), l0 (k + 1) (n : Int) = some true) :
    ∀ (k : Nat), n + K < k → l0 k 0 = some true := by
  have key : ∀ (d : Nat) (k : Nat) (i : Nat), i + d = n → d + K < k → l0 k (i : Int) = some true := by
    intro d
    induction d with
    | zero =>
      intro k i hd hk
      obtain ⟨k, rfl⟩ : ∃ m, k = m + 1 := ⟨k - 1, by omega⟩
      obtain rfl : i = n := by omega
      exact hend k
    | succ d ih =>
      intro k i hd hk
      obtain ⟨k, rfl⟩ : ∃ m, k = m + 1 := ⟨k - 1, by omega⟩
      rw [hstep k i (by omega) (by omega)]
      exact ih k (i + 1) (by omega) (by omega)
  intro k hk
  exact key n k 0 (by omega) (by omega)
theorem rd_get {l : List Int} {i : Nat} (h : i < l.length) : rd l (i : Int) = l[i] := by simp [rd, h]
theorem rdOf_get {α : Type} {z : α} {l : List α} {i : Nat} (h : i < l.length) : rdOf z l (i : Int) = l[i] := by simp [rdOf, h]
theorem wsucc {i n : Nat} (h : i < n) (hn : n ≤ 4611686018427387904) : wrap64 ((i : Int) + 1) = ((i + 1 : Nat) : Int) := by rw [w64 (by omega) (by omega)]; omega
/-! ### CredOk, of the program and of the reference -/
theorem cin_eq (a b c : Int) : impl_in.f a b c = some (decide (b ≤ a ∧ a ≤ c)) := by
  unfold impl_in.f
  by_cases h : a ≥ b <;> simp [h]
theorem sin_eq (a b c : Int) : spec_l6In.f a b c = some (decide (b ≤ a ∧ a ≤ c)) := by
  unfold spec_l6In.f
  by_cases h : a ≥ b <;> simp [h]
theorem user_eq (a : Int) : spec_l5User.f a = some (decide (0 ≤ a ∧ a ≤ 9)) := by
  unfold spec_l5User.f
  rw [sin_eq]; rfl
def crStep (gs : List Int) (i : Nat) : Bool := decide (0 ≤ rd gs i ∧ rd gs i ≤ 9) && (decide (i = 0) || decide (rd gs ((i : Int) - 1) < rd gs i))
def crFrom (u r : Int) (gs : List Int) (i : Nat) : Nat → Bool
  | 0 => decide (0 ≤ u ∧ u ≤ 9) && (decide (0 ≤ r ∧ r ≤ 9) && decide (gs.length ≤ 3))
  | d + 1 => crStep gs i && crFrom u r gs (i + 1) d
def crFine (u r : Int) (gs : List Int) : Bool := crFrom u r gs 0 gs.length
theorem cr_impl (u r : Int) (gs : List Int) (hn : gs.length ≤ 4611686018427387904) (d : Nat) : ∀ (k i : Nat), i + d = gs.length → d < k → impl_CredOk.l0 k gs (gs.length : Int) (i : Int) u r gs = some (crFrom u r gs i d) := by
  induction d with
  | zero =>
    intro k i hi hk
    obtain ⟨k, rfl⟩ : ∃ m, k = m + 1 := ⟨k - 1, by omega⟩
    rw [impl_CredOk.l0, if_neg (by omega), cin_eq, cin_eq]
    simp only [Option.bind_some, crFrom]
    by_cases c1 : 0 ≤ u ∧ u ≤ 9
    · by_cases c2 : 0 ≤ r ∧ r ≤ 9
      · have : ((gs.length : Int) ≤ 3) ↔ gs.length ≤ 3 := by omega
        simp [c1, c2, this]
      · simp [c1, c2]
    · simp [c1]
  | succ d ih =>
    intro k i hi hk
    obtain ⟨k, rfl⟩ : ∃ m, k = m + 1 := ⟨k - 1, by omega⟩
    have e := ih k (i + 1) (by omega) (by omega)
    have w : wrap64 ((i : Int) + 1) = ((i + 1 : Nat) : Int) := wsucc (show i < gs.length by omega) (by omega)
    have w' : wrap64 ((i : Int) - 1) = (i : Int) - 1 := w64 (by omega) (by omega)
    rw [impl_CredOk.l0, if_pos (by omega), if_pos (by omega), if_pos (by omega), w, w', e, cin_eq]
    simp only [Option.bind_some, crFrom, crStep]
    generalize crFrom u r gs (i + 1) d = z
    by_cases c1 : 0 ≤ rd gs (i : Int) ∧ rd gs (i : Int) ≤ 9
    · by_cases c2 : i = 0
      · subst c2
        have c1' : 0 ≤ rd gs 0 ∧ rd gs 0 ≤ 9 := c1
        simp [c1']
      · by_cases c3 : rd gs ((i : Int) - 1) < rd gs (i : Int)
        · rw [if_pos (by simpa using c1), if_pos (by omega), if_pos (by omega), if_pos (by omega), if_neg (by omega)]
          simp [c1, c3]
        · rw [if_pos (by simpa using c1), if_pos (by omega), if_pos (by omega), if_pos (by omega), if_pos (by omega)]
          simp [c2, c3]
    · simp [c1]
theorem cr_spec (u r : Int) (gs : List Int) (hn : gs.length ≤ 4611686018427387904) (d : Nat) : ∀ (k i : Nat), i + d = gs.length → d < k → spec_CredOk.l0 k (i : Int) u r gs = some (crFrom u r gs i d) := by
  induction d with
  | zero =>
    intro k i hi hk
    obtain ⟨k, rfl⟩ : ∃ m, k = m + 1 := ⟨k - 1, by omega⟩
    rw [spec_CredOk.l0, if_neg (by omega), user_eq, user_eq]
    simp only [Option.bind_some, crFrom]
    by_cases c1 : 0 ≤ u ∧ u ≤ 9
    · by_cases c2 : 0 ≤ r ∧ r ≤ 9
      · have : ((gs.length : Int) ≤ 3) ↔ gs.length ≤ 3 := by omega
        simp [c1, c2, this]
      · simp [c1, c2]
    · simp [c1]
  | succ d ih =>
    intro k i hi hk
    obtain ⟨k, rfl⟩ : ∃ m, k = m + 1 := ⟨k - 1, by omega⟩
    have e := ih k (i + 1) (by omega) (by omega)
    have w : wrap64 ((i : Int) + 1) = ((i + 1 : Nat) : Int) := wsucc (show i < gs.length by omega) (by omega)
    have w' : wrap64 ((i : Int) - 1) = (i : Int) - 1 := w64 (by omega) (by omega)
    rw [spec_CredOk.l0, if_pos (by omega), if_pos (by omega), w, w', e, user_eq]
    simp only [Option.bind_some, crFrom, crStep]
    generalize crFrom u r gs (i + 1) d = z
    by_cases c1 : 0 ≤ rd gs (i : Int) ∧ rd gs (i : Int) ≤ 9
    · by_cases c2 : i = 0
      · subst c2
        have c1' : 0 ≤ rd gs 0 ∧ rd gs 0 ≤ 9 := c1
        simp [c1']
      · by_cases c3 : rd gs ((i : Int) - 1) < rd gs (i : Int)
        · rw [if_pos (by simpa using c1), if_pos (by omega), if_pos (by omega), if_pos (by omega), if_neg (by omega)]
          simp [c1, c3]
        · rw [if_pos (by simpa using c1), if_pos (by omega), if_pos (by omega), if_pos (by omega), if_pos (by omega)]
          simp [c2, c3]
    · simp [c1]
theorem credok_impl (u r : Int) (gs : List Int) (hn : gs.length ≤ 4611686018427387904) {k : Nat} (hk : gs.length < k) : impl_CredOk.f k u r gs = some (crFine u r gs) :=
  cr_impl u r gs hn gs.length k 0 (by omega) hk
theorem credok_spec (u r : Int) (gs : List Int) (hn : gs.length ≤ 4611686018427387904) {k : Nat} (hk : gs.length < k) : spec_CredOk.f k u r gs = some (crFine u r gs) :=
  cr_spec u r gs hn gs.length k 0 (by omega) hk
/-! ### how creds are drawn -/
theorem crd3 {v : Int} (v1 : v < 3) : v < (([0, 9, 10] : List Int).length : Int) ∧ v < (([(-1), 10, 9] : List Int).length : Int) := by
  simp; omega
theorem cred_loop {s : List Int} (hb : Bytes s) (hs : s.length ≤ 2000) (u r : Int) (d : Nat) : ∀ (k : Nat) (i : Nat) (p : Int) (gs : List Int), i + d = 5 → 2 * d + 4 < k → gs.length ≤ i → 0 ≤ p → p ≤ 800000000 + i →
    ∃ u' r' gs' p', spec_l91Cred.l0 k (i : Int) s p u r gs = some (u', r', gs', p') ∧ p ≤ p' ∧ p' ≤ p + d + 3 ∧ gs'.length ≤ 10 := by
  have tail : ∀ (k : Nat) (i p : Int) (gs : List Int), 2 ≤ k → gs.length ≤ 5 → 0 ≤ p → p ≤ 800000005 → ∃ u' r' gs' p', spec_l91Cred.j1 k i false s p u r gs = some (u', r', gs', p') ∧ p ≤ p' ∧ p' ≤ p + 3 ∧ gs'.length ≤ 10 := by
    intro k i p gs hk hg hp0 hp1
    obtain ⟨k, rfl⟩ : ∃ m, k = m + 1 := ⟨k - 1, by omega⟩
    obtain ⟨x, hx, _, _, _⟩ := pick_ok hb hs (p := p) hp0 (by omega) 30 (k := k) (by omega)
    obtain ⟨y, hy, y0, y1, _⟩ := pick_ok hb hs (p := p + 1) (by omega) (by omega) 3 (k := k) (by omega)
    have y1 := y1 (by omega)
    have y3 := crd3 y1
    rw [spec_l91Cred.j1, if_neg (by decide), hx]
    simp only [Option.bind_some]
    by_cases c0 : x = 0
    · rw [if_pos c0, hy]; simp only [Option.bind_some]
      rw [if_pos y0, if_pos y3.2]
      exact ⟨_, _, _, _, rfl, by omega, by omega, by omega⟩
    · rw [if_neg c0]
      by_cases c1 : x = 1
      · rw [if_pos c1, hy]; simp only [Option.bind_some]
        rw [if_pos y0, if_pos y3.1, if_pos (by omega)]
        exact ⟨_, _, _, _, rfl, by omega, by omega, by rw [List.length_append]; simp; omega⟩
      · rw [if_neg c1]
        exact ⟨_, _, _, _, rfl, by omega, by omega, by omega⟩
  induction d with
  | zero =>
    intro k i p gs hi hk hg hp0 hp1
    obtain ⟨k, rfl⟩ : ∃ m, k = m + 1 := ⟨k - 1, by omega⟩
    rw [spec_l91Cred.l0, if_neg (by omega)]
    obtain ⟨u', r', gs', p', h, h1, h2, h3⟩ := tail k i p gs (by omega) (by omega) hp0 (by omega)
    exact ⟨u', r', gs', p', h, h1, by omega, h3⟩
  | succ d ih =>
    intro k i p gs hi hk hg hp0 hp1
    obtain ⟨k, rfl⟩ : ∃ m, k = m + 1 := ⟨k - 1, by omega⟩
    rw [spec_l91Cred.l0, if_pos (by omega)]
    by_cases c : (gs.length : Int) < 3
    · rw [decide_eq_true c]
      obtain ⟨k, rfl⟩ : ∃ m, k = m + 1 := ⟨k - 1, by omega⟩
      obtain ⟨x, hx, _, _, _⟩ := pick_ok hb hs (p := p) hp0 (by omega) 4 (k := k) (by omega)
      have w : wrap64 ((i : Int) + 1) = ((i + 1 : Nat) : Int) := wsucc (show i < 10 by omega) (by omega)
      rw [spec_l91Cred.j1, if_pos rfl, hx]
      simp only [Option.bind_some, w]
      by_cases c0 : x = 0
      · rw [if_pos c0, if_pos (by omega)]
        obtain ⟨u', r', gs', p', h, h1, h2, h3⟩ := ih k (i + 1) (p + 1) (gs ++ [(i : Int)]) (by omega) (by omega) (by rw [List.length_append]; simp; omega) (by omega) (by omega)
        exact ⟨u', r', gs', p', h, by omega, by omega, h3⟩
      · rw [if_neg c0]
        obtain ⟨u', r', gs', p', h, h1, h2, h3⟩ := ih k (i + 1) (p + 1) gs (by omega) (by omega) (by omega) (by omega) (by omega)
        exact ⟨u', r', gs', p', h, by omega, by omega, h3⟩
    · rw [decide_eq_false c]
      obtain ⟨u', r', gs', p', h, h1, h2, h3⟩ := tail k i p gs (by omega) (by omega) hp0 (by omega)
      exact ⟨u', r', gs', p', h, h1, by omega, h3⟩
theorem cred_ok {s : List Int} (hb : Bytes s) (hs : s.length ≤ 2000) {p : Int} (hp0 : 0 ≤ p) (hp1 : p ≤ 700000000) {k : Nat} (hk : 16 ≤ k) :
    ∃ u r gs p', spec_l91Cred.f k s p = some (u, r, gs, p') ∧ p ≤ p' ∧ p' ≤ p + 12 ∧ gs.length ≤ 10 := by
  obtain ⟨u, hu, _, _, _⟩ := pick_ok hb hs (p := p) hp0 (by omega) 4 (k := k) (by omega)
  obtain ⟨r, hr, _, _, _⟩ := pick_ok hb hs (p := p + 1) (by omega) (by omega) 4 (k := k) (by omega)
  unfold spec_l91Cred.f
  rw [hu]; simp only [Option.bind_some]
  rw [hr]; simp only [Option.bind_some]
  obtain ⟨u', r', gs', p', h, h1, h2, h3⟩ := cred_loop hb hs u r 5 k 0 (p + 1 + 1) [] (by omega) (by omega) (by simp) (by omega) (by omega)
  exact ⟨u', r', gs', p', h, by omega, by omega, h3⟩

def sigB (u r : Int) (gs : List Int) (u' r' : Int) (gs' : List Int) : Bool := crFine u r gs && (crFine u' r' gs' && (decide (u = 0) || (decide (u = u') || (decide (u = r') || (decide (r = u') || decide (r = r'))))))
theorem sig_impl (u r : Int) (gs : List Int) (u' r' : Int) (gs' : List Int) (hn : gs.length ≤ 10) (hn' : gs'.length ≤ 10) {k : Nat} (hk : 20 ≤ k) : impl_CredSignal.f k u r gs u' r' gs' = some (sigB u r gs u' r' gs') := by
  unfold impl_CredSignal.f sigB
  rw [credok_impl u r gs (by omega) (by omega), credok_impl u' r' gs' (by omega) (by omega)]
  simp only [Option.bind_some]
  generalize crFine u r gs = a
  generalize crFine u' r' gs' = b
  have e : (r == r') = decide (r = r') := rfl
  by_cases c1 : u = 0
  · cases a <;> cases b <;> simp [c1]
  · by_cases c2 : u = u'
    · subst c2; cases a <;> cases b <;> simp [c1]
    · by_cases c3 : u = r'
      · subst c3; cases a <;> cases b <;> simp [c1, c2]
      · by_cases c4 : r = u'
        · subst c4; cases a <;> cases b <;> simp [c1, c2, c3]
        · cases a <;> cases b <;> simp [c1, c2, c3, c4, e]
theorem sig_spec (u r : Int) (gs : List Int) (u' r' : Int) (gs' : List Int) (hn : gs.length ≤ 10) (hn' : gs'.length ≤ 10) {k : Nat} (hk : 20 ≤ k) : spec_CredSignal.f k u r gs u' r' gs' = some (sigB u r gs u' r' gs') := by
  rw [← sig_impl u r gs u' r' gs' hn hn' hk]
  unfold spec_CredSignal.f impl_CredSignal.f spec_l5Signal.f
  rw [credok_spec u r gs (by omega) (by omega), credok_spec u' r' gs' (by omega) (by omega), credok_impl u r gs (by omega) (by omega), credok_impl u' r' gs' (by omega) (by omega)]
  simp only [Option.bind_some]
  split
  · split
    · repeat' split
      all_goals rfl
    · rfl
  · rfl

theorem FnCredSignal : BdFnCredSignal.Pure := by
  intro l0 ⟨_, hwf⟩
  refine ⟨100, ?_⟩
  unfold laws_FnCredSignal.f
  by_cases hl : (l0.length : Int) > 1048576
  · rw [if_pos hl]
  · rw [if_neg hl]
    obtain ⟨s, ho, hb, hs⟩ := open_ok (bytes_of_wf hwf)
    obtain ⟨u, r, gs, p, h1, p0, p1, hn⟩ := cred_ok hb hs (p := 0) (by omega) (by omega) (k := 100) (by omega)
    obtain ⟨u', r', gs', p', h2, _, _, hn'⟩ := cred_ok hb hs (p := p) (by omega) (by omega) (k := 100) (by omega)
    have hd : spec_DrawCredSignal.f 100 l0 = some (u, r, gs, u', r', gs') := by
      unfold spec_DrawCredSignal.f
      rw [ho]; simp only [Option.bind_some]
      rw [h1]; simp only [Option.bind_some]
      rw [h2]; simp only [Option.bind_some]
    rw [hd]; simp only [Option.bind_some]
    rw [sig_impl u r gs u' r' gs' hn hn' (by omega), sig_spec u r gs u' r' gs' hn hn' (by omega), credok_impl u r gs (by omega) (by omega), credok_impl u' r' gs' (by omega) (by omega)]
    simp only [Option.bind_some, beq_self_eq_true, if_true]
    have over : ∀ k b, laws_FnCredSignal.j0 (k + 1) b true true u r gs u' r' gs' = some true := fun k b => by rw [laws_FnCredSignal.j0, if_pos rfl]
    by_cases c1 : crFine u r gs = true
    · rw [if_pos c1]
      by_cases c2 : crFine u' r' gs' = true
      · rw [c2]
        show laws_FnCredSignal.j0 (99 + 1) _ true false u r gs u' r' gs' = some true
        rw [laws_FnCredSignal.j0, if_neg (by decide), sig_impl u r gs u r gs hn hn (by omega), sig_impl u' r' gs' u r gs hn' hn (by omega)]
        have e1 : sigB u r gs u r gs = true := by simp [sigB, c1]
        simp only [Option.bind_some, e1, if_true]
        by_cases d1 : u = 0
        · rw [if_pos d1]
          have : sigB u r gs u' r' gs' = true := by subst d1; simp [sigB, c1, c2]
          rw [this]; rfl
        · rw [if_neg d1]
          by_cases d2 : u' = 0
          · rw [if_pos d2]
          · rw [if_neg d2]
            have : sigB u r gs u' r' gs' = sigB u' r' gs' u r gs := by
              simp only [sigB, c1, c2, d1, d2, Bool.true_and, decide_false, Bool.false_or]
              rw [Bool.eq_iff_iff]
              simp only [Bool.or_eq_true, decide_eq_true_eq]
              omega
            rw [this]; simp
      · have c2' : crFine u' r' gs' = false := by simpa using c2
        rw [c2']; exact over 99 _
    · rw [if_neg c1]; exact over 99 _

end Go.Proofs.Ytjokfjjdachpiaa.Pure
