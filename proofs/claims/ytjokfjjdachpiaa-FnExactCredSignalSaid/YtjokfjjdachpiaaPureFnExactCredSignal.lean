/- The program's CredSignal and the reference's answer alike at every two creds. -/
import Derived.Test.YtjokfjjdachpiaaBdFnExactCredSignal
import Derived.WideShapes
import Derived.IntWalk
import Derived.OpenShut
namespace Go.Proofs.Ytjokfjjdachpiaa.Pure
open Go.RowKit Go.Proofs.Ytjokfjjdachpiaa.PFnExactCredSignal Go.Proofs.YtjokfjjdachpiaaW.PrintWords Go.Proofs.YtjokfjjdachpiaaW.PrintLast
/-! ### small facts on numbers, bytes and rounds -/
theorem w64 {n : Int} (h1 : -9223372036854775808 ≤ n) (h2 : n ≤ 9223372036854775807) : wrap64 n = n := by unfold wrap64; omega
theorem w64_range (n : Int) : -9223372036854775808 ≤ wrap64 n ∧ wrap64 n ≤ 9223372036854775807 := by unfold wrap64; omega
theorem xor_ok {x y : Int} (hx : 0 ≤ x) (hx2 : x < 4611686018427387904) (hy : 0 ≤ y) (hy2 : y < 4611686018427387904) : 0 ≤ Go.bits .xor .i64 x y ∧ Go.bits .xor .i64 x y < 4611686018427387904 := by
  have h1 : (BitVec.ofInt 64 x ^^^ BitVec.ofInt 64 y).toNat < 2 ^ 62 := by
    rw [BitVec.toNat_xor]
    apply Nat.xor_lt_two_pow
    · rw [BitVec.toNat_ofInt]; omega
    · rw [BitVec.toNat_ofInt]; omega
  have h2 : Go.bits .xor .i64 x y = ((BitVec.ofInt 64 x ^^^ BitVec.ofInt 64 y).toNat : Int) := by
    show IntKind.wrap .i64 ((BitVec.ofInt 64 x ^^^ BitVec.ofInt 64 y).toNat : Int) = _
    generalize (BitVec.ofInt 64 x ^^^ BitVec.ofInt 64 y).toNat = m at h1
    exact IntWalk.i64_in _ (by omega)
  rw [h2]; omega
theorem tmod_ok {x n : Int} (hx : 0 ≤ x) (hn : 1 ≤ n) : 0 ≤ Int.tmod x n ∧ Int.tmod x n < n := by
  rw [Int.tmod_eq_emod_of_nonneg hx]
  exact ⟨Int.emod_nonneg _ (by omega), Int.emod_lt_of_pos _ (by omega)⟩
theorem tdiv_ok {x n : Int} (hx : 0 ≤ x) (hn : 1 ≤ n) : 0 ≤ Int.tdiv x n ∧ Int.tdiv x n ≤ x := by
  rw [Int.tdiv_eq_ediv_of_nonneg hx]
  exact ⟨Int.ediv_nonneg hx (by omega), Int.ediv_le_self _ hx⟩
theorem rd_mem {xs : List Int} {i : Int} (h0 : 0 ≤ i) (h1 : i < (xs.length : Int)) : rd xs i ∈ xs := by
  have hl : i.toNat < xs.length := by omega
  unfold rd
  rw [List.getD_eq_getElem?_getD, List.getElem?_eq_getElem hl]
  exact List.getElem_mem hl
def Bytes (s : List Int) : Prop := ∀ x ∈ s, 0 ≤ x ∧ x ≤ 255
theorem bytes_of_wf {s : List Int} (h : ∀ x ∈ s, (Lit.int .u8 x).wf = true) : Bytes s := fun x hx => Go.bounds_u8 (h x hx)
theorem bytes_rd {s : List Int} (h : Bytes s) {i : Int} (h0 : 0 ≤ i) (h1 : i < (s.length : Int)) : 0 ≤ rd s i ∧ rd s i ≤ 255 := h _ (rd_mem h0 h1)
theorem toList_inj {a b : ByteArray} : a.toList = b.toList ↔ a = b := by
  rw [ByteArray.toList_eq, ByteArray.toList_eq]
  constructor
  · intro h; exact Go.WideShapes.bytes_inj h
  · rintro rfl; rfl
theorem toList_nil {a : ByteArray} : a.toList = ([] : List UInt8) ↔ a.size = 0 := by
  rw [ByteArray.toList_eq, List.eq_nil_iff_length_eq_zero, data_length]
/-! ### rows that are copied, and rows that are held against themselves -/
theorem to_gen {β : Type} {l0 : Nat → List β → Int → Option (List β)} (xs : List β) (K : Nat)
    (hstep : ∀ (k : Nat) (acc : List β) (i : Nat) (hi : i < xs.length), K ≤ k → acc.length = xs.length → l0 (k + 1) acc (i : Int) = l0 k (acc.set i (xs[i]'hi)) ((i + 1 : Nat) : Int))
    (hend : ∀ (k : Nat) (acc : List β), l0 (k + 1) acc (xs.length : Int) = some acc) :
    ∀ (k : Nat) (acc : List β), acc.length = xs.length → xs.length + K < k → l0 k acc 0 = some xs := by
  have key : ∀ (d : Nat) (k : Nat) (acc : List β) (i : Nat), i + d = xs.length → d + K < k → acc.length = xs.length → (∀ j, j < i → acc[j]? = xs[j]?) → l0 k acc (i : Int) = some xs := by
    intro d
    induction d with
    | zero =>
      intro k acc i hd hk hl hj
      obtain ⟨k, rfl⟩ : ∃ m, k = m + 1 := ⟨k - 1, by omega⟩
      obtain rfl : i = xs.length := by omega
      rw [hend]
      congr 1
      apply List.ext_getElem?
      intro j
      by_cases h : j < xs.length
      · exact hj j h
      · rw [List.getElem?_eq_none (by omega), List.getElem?_eq_none (by omega)]
    | succ d ih =>
      intro k acc i hd hk hl hj
      obtain ⟨k, rfl⟩ : ∃ m, k = m + 1 := ⟨k - 1, by omega⟩
      have hi : i < xs.length := by omega
      rw [hstep k acc i hi (by omega) hl]
      refine ih k _ (i + 1) (by omega) (by omega) (by rw [List.length_set]; exact hl) (fun j hjl => ?_)
      by_cases e : j = i
      · subst e
        rw [List.getElem?_set_self (by omega), List.getElem?_eq_getElem hi]
      · rw [List.getElem?_set_ne (by omega)]
        exact hj j (by omega)
  intro k acc hl hk
  exact key xs.length k acc 0 (by omega) (by omega) hl (fun j hj => absurd hj (Nat.not_lt_zero j))
theorem eq_gen {l0 : Nat → Int → Option Bool} (n : Nat) (K : Nat)
    (hstep : ∀ (k : Nat) (i : Nat), i < n → K ≤ k → l0 (k + 1) (i : Int) = l0 k ((i + 1 : Nat) : Int)) (hend : ∀ (k : Nat), l0 (k + 1) (n : Int) = some true) :
    ∀ (k : Nat), n + K < k → l0 k 0 = some true := by
  have key : ∀ (d : Nat) (k : Nat) (i : Nat), i + d = n → d + K < k → l0 k (i : Int) = some true := by
    intro d
    induction d with
    | zero =>
      intro k i hd hk
      obtain ⟨k, rfl⟩ : ∃ m, k = m + 1 := ⟨k - 1, by omega⟩
      obtain rfl : i = n := by omega
      exact hend k
    | succ d ih =>
      intro k i hd hk
      obtain ⟨k, rfl⟩ : ∃ m, k = m + 1 := ⟨k - 1, by omega⟩
      rw [hstep k i (by omega) (by omega)]
      exact ih k (i + 1) (by omega) (by omega)
  intro k hk
  exact key n k 0 (by omega) (by omega)
theorem rd_get {l : List Int} {i : Nat} (h : i < l.length) : rd l (i : Int) = l[i] := by simp [rd, h]
theorem rdOf_get {α : Type} {z : α} {l : List α} {i : Nat} (h : i < l.length) : rdOf z l (i : Int) = l[i] := by simp [rdOf, h]
theorem wsucc {i n : Nat} (h : i < n) (hn : n ≤ 4611686018427387904) : wrap64 ((i : Int) + 1) = ((i + 1 : Nat) : Int) := by rw [w64 (by omega) (by omega)]; omega
/-! ### CredOk, of the program and of the reference -/
theorem cin_eq (a b c : Int) : impl_in.f a b c = some (decide (b ≤ a ∧ a ≤ c)) := by
  unfold impl_in.f
  by_cases h : a ≥ b <;> simp [h]
theorem sin_eq (a b c : Int) : spec_l6In.f a b c = some (decide (b ≤ a ∧ a ≤ c)) := by
  unfold spec_l6In.f
  by_cases h : a ≥ b <;> simp [h]
theorem user_eq (a : Int) : spec_l5User.f a = some (decide (0 ≤ a ∧ a ≤ 9)) := by
  unfold spec_l5User.f
  rw [sin_eq]; rfl
def crStep (gs : List Int) (i : Nat) : Bool := decide (0 ≤ rd gs i ∧ rd gs i ≤ 9) && (decide (i = 0) || decide (rd gs ((i : Int) - 1) < rd gs i))
def crFrom (u r : Int) (gs : List Int) (i : Nat) : Nat → Bool
  | 0 => decide (0 ≤ u ∧ u ≤ 9) && (decide (0 ≤ r ∧ r ≤ 9) && decide (gs.length ≤ 3))
  | d + 1 => crStep gs i && crFrom u r gs (i + 1) d
def crFine (u r : Int) (gs : List Int) : Bool := crFrom u r gs 0 gs.length
theorem cr_impl (u r : Int) (gs : List Int) (hn : gs.length ≤ 4611686018427387904) (d : Nat) : ∀ (k i : Nat), i + d = gs.length → d < k → impl_CredOk.l0 k gs (gs.length : Int) (i : Int) u r gs = some (crFrom u r gs i d) := by
  induction d with
  | zero =>
    intro k i hi hk
    obtain ⟨k, rfl⟩ : ∃ m, k = m + 1 := ⟨k - 1, by omega⟩
    rw [impl_CredOk.l0, if_neg (by omega), cin_eq, cin_eq]
    simp only [Option.bind_some, crFrom]
    by_cases c1 : 0 ≤ u ∧ u ≤ 9
    · by_cases c2 : 0 ≤ r ∧ r ≤ 9
      · have : ((gs.length : Int) ≤ 3) ↔ gs.length ≤ 3 := by omega
        simp [c1, c2, this]
      · simp [c1, c2]
    · simp [c1]
  | succ d ih =>
    intro k i hi hk
    obtain ⟨k, rfl⟩ : ∃ m, k = m + 1 := ⟨k - 1, by omega⟩
    have e := ih k (i + 1) (by omega) (by omega)
    have w : wrap64 ((i : Int) + 1) = ((i + 1 : Nat) : Int) := wsucc (show i < gs.length by omega) (by omega)
    have w' : wrap64 ((i : Int) - 1) = (i : Int) - 1 := w64 (by omega) (by omega)
    rw [impl_CredOk.l0, if_pos (by omega), if_pos (by omega), if_pos (by omega), w, w', e, cin_eq]
    simp only [Option.bind_some, crFrom, crStep]
    generalize crFrom u r gs (i + 1) d = z
    by_cases c1 : 0 ≤ rd gs (i : Int) ∧ rd gs (i : Int) ≤ 9
    · by_cases c2 : i = 0
      · subst c2
        have c1' : 0 ≤ rd gs 0 ∧ rd gs 0 ≤ 9 := c1
        simp [c1']
      · by_cases c3 : rd gs ((i : Int) - 1) < rd gs (i : Int)
        · rw [if_pos (by simpa using c1), if_pos (by omega), if_pos (by omega), if_pos (by omega), if_neg (by omega)]
          simp [c1, c3]
        · rw [if_pos (by simpa using c1), if_pos (by omega), if_pos (by omega), if_pos (by omega), if_pos (by omega)]
          simp [c2, c3]
    · simp [c1]
theorem cr_spec (u r : Int) (gs : List Int) (hn : gs.length ≤ 4611686018427387904) (d : Nat) : ∀ (k i : Nat), i + d = gs.length → d < k → spec_CredOk.l0 k (i : Int) u r gs = some (crFrom u r gs i d) := by
  induction d with
  | zero =>
    intro k i hi hk
    obtain ⟨k, rfl⟩ : ∃ m, k = m + 1 := ⟨k - 1, by omega⟩
    rw [spec_CredOk.l0, if_neg (by omega), user_eq, user_eq]
    simp only [Option.bind_some, crFrom]
    by_cases c1 : 0 ≤ u ∧ u ≤ 9
    · by_cases c2 : 0 ≤ r ∧ r ≤ 9
      · have : ((gs.length : Int) ≤ 3) ↔ gs.length ≤ 3 := by omega
        simp [c1, c2, this]
      · simp [c1, c2]
    · simp [c1]
  | succ d ih =>
    intro k i hi hk
    obtain ⟨k, rfl⟩ : ∃ m, k = m + 1 := ⟨k - 1, by omega⟩
    have e := ih k (i + 1) (by omega) (by omega)
    have w : wrap64 ((i : Int) + 1) = ((i + 1 : Nat) : Int) := wsucc (show i < gs.length by omega) (by omega)
    have w' : wrap64 ((i : Int) - 1) = (i : Int) - 1 := w64 (by omega) (by omega)
    rw [spec_CredOk.l0, if_pos (by omega), if_pos (by omega), w, w', e, user_eq]
    simp only [Option.bind_some, crFrom, crStep]
    generalize crFrom u r gs (i + 1) d = z
    by_cases c1 : 0 ≤ rd gs (i : Int) ∧ rd gs (i : Int) ≤ 9
    · by_cases c2 : i = 0
      · subst c2
        have c1' : 0 ≤ rd gs 0 ∧ rd gs 0 ≤ 9 := c1
        simp [c1']
      · by_cases c3 : rd gs ((i : Int) - 1) < rd gs (i : Int)
        · rw [if_pos (by simpa using c1), if_pos (by omega), if_pos (by omega), if_pos (by omega), if_neg (by omega)]
          simp [c1, c3]
        · rw [if_pos (by simpa using c1), if_pos (by omega), if_pos (by omega), if_pos (by omega), if_pos (by omega)]
          simp [c2, c3]
    · simp [c1]
theorem credok_impl (u r : Int) (gs : List Int) (hn : gs.length ≤ 4611686018427387904) {k : Nat} (hk : gs.length < k) : impl_CredOk.f k u r gs = some (crFine u r gs) :=
  cr_impl u r gs hn gs.length k 0 (by omega) hk
theorem credok_spec (u r : Int) (gs : List Int) (hn : gs.length ≤ 4611686018427387904) {k : Nat} (hk : gs.length < k) : spec_CredOk.f k u r gs = some (crFine u r gs) :=
  cr_spec u r gs hn gs.length k 0 (by omega) hk
theorem toIntS_ok (l : List Int) (hl : l.length ≤ 17592186044416) {k : Nat} (hk : l.length < k) : laws_toIntS.f k l = some l := by
  unfold laws_toIntS.f
  rw [if_pos (by omega), if_pos (by omega)]
  refine to_gen (l0 := fun k acc i => laws_toIntS.l0 k l acc i) l 0 ?_ ?_ k _ (by simp) (by omega)
  · intro k acc i hi _ ha
    show laws_toIntS.l0 (k + 1) l acc (i : Int) = _
    rw [laws_toIntS.l0, if_pos (by omega), if_pos (by omega), if_pos (by omega), wsucc hi (by omega), rd_get hi, Int.toNat_natCast]
  · intro k acc
    show laws_toIntS.l0 (k + 1) l acc (l.length : Int) = _
    rw [laws_toIntS.l0, if_neg (by omega)]
theorem eqIntS_ok (l : List Int) (hl : l.length ≤ 17592186044416) {k : Nat} (hk : l.length < k) : laws_eqIntS.f k l l = some true := by
  unfold laws_eqIntS.f
  rw [if_pos rfl]
  refine eq_gen (l0 := fun k i => laws_eqIntS.l0 k l l i) l.length 0 ?_ ?_ k (by omega)
  · intro k i hi _
    show laws_eqIntS.l0 (k + 1) l l (i : Int) = _
    rw [laws_eqIntS.l0, if_pos (by omega), if_pos (by omega), if_pos (by omega), wsucc hi (by omega)]
    simp
  · intro k
    show laws_eqIntS.l0 (k + 1) l l (l.length : Int) = _
    rw [laws_eqIntS.l0, if_neg (by omega)]
theorem toCred_ok (u r : Int) (gs : List Int) (hl : gs.length ≤ 17592186044416) {k : Nat} (hk : gs.length < k) : laws_toCred.f k u r gs = some (u, r, gs) := by
  unfold laws_toCred.f
  rw [toIntS_ok gs hl hk]; rfl
theorem eqCred_ok (u r : Int) (gs : List Int) (hl : gs.length ≤ 17592186044416) {k : Nat} (hk : gs.length < k) : laws_eqCred.f k u r gs u r gs = some true := by
  unfold laws_eqCred.f
  rw [if_pos rfl, if_pos rfl, eqIntS_ok gs hl hk]; rfl
theorem szCred_le (u r : Int) (gs : List Int) (a : Int) (hl : gs.length ≤ 140737488351232) (h0 : 0 ≤ a) (h1 : a ≤ 1048576) : ∃ t, laws_szCred.f u r gs a = some t ∧ t ≤ 1048576 ∧ (0 ≤ t → gs.length ≤ 1048576) := by
  unfold laws_szCred.f laws_szIntS.f
  rw [w64 (n := a - (gs.length : Int)) (by omega) (by omega)]
  by_cases c : a - (gs.length : Int) < 0
  · rw [if_pos c]; simp only [Option.bind_some]; rw [if_pos (by omega)]
    exact ⟨_, rfl, by omega, fun h => by omega⟩
  · rw [if_neg c]; simp only [Option.bind_some]; rw [if_neg c]
    exact ⟨_, rfl, by omega, fun h => by omega⟩

theorem FnExactCredSignal : BdFnExactCredSignal.Pure := by
  intro u r gs u' r' gs' ⟨_, _, hl, _⟩ ⟨_, _, hl', _⟩
  refine ⟨2000000, ?_⟩
  unfold laws_FnExactCredSignal.f
  obtain ⟨t, ht, ht1, g1⟩ := szCred_le u r gs 1048576 (by omega) (by omega) (by omega)
  rw [ht]; simp only [Option.bind_some]
  by_cases c : t < 0
  · rw [if_pos c]
  · rw [if_neg c]
    have g1 := g1 (by omega)
    obtain ⟨t', ht', _, g2⟩ := szCred_le u' r' gs' t (by omega) (by omega) (by omega)
    rw [ht']; simp only [Option.bind_some]
    by_cases c' : t' < 0
    · rw [if_pos c']
    · rw [if_neg c']
      have g2 := g2 (by omega)
      have hs : spec_CredSignal.f 2000000 u r gs u' r' gs' = impl_CredSignal.f 2000000 u r gs u' r' gs' := by
        unfold spec_CredSignal.f impl_CredSignal.f spec_l5Signal.f
        rw [credok_spec u r gs (by omega) (by omega), credok_spec u' r' gs' (by omega) (by omega), credok_impl u r gs (by omega) (by omega), credok_impl u' r' gs' (by omega) (by omega)]
        simp only [Option.bind_some]
        split
        · split
          · repeat' split
            all_goals rfl
          · rfl
        · rfl
      have hv : ∃ b, impl_CredSignal.f 2000000 u r gs u' r' gs' = some b := by
        unfold impl_CredSignal.f
        rw [credok_impl u r gs (by omega) (by omega), credok_impl u' r' gs' (by omega) (by omega)]
        simp only [Option.bind_some]
        repeat' split
        all_goals exact ⟨_, rfl⟩
      obtain ⟨b, hb⟩ := hv
      rw [toCred_ok u r gs (by omega) (by omega)]; simp only [Option.bind_some]
      rw [toCred_ok u' r' gs' (by omega) (by omega)]; simp only [Option.bind_some]
      rw [hs, hb]; simp only [Option.bind_some]
      rw [eqCred_ok u r gs (by omega) (by omega)]
      rw [eqCred_ok u' r' gs' (by omega) (by omega)]; simp

end Go.Proofs.Ytjokfjjdachpiaa.Pure
