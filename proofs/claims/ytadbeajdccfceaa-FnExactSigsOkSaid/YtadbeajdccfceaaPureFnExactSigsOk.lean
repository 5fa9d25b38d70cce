/- The program's SigsOk and the reference's answer alike at every three rows. -/
import Derived.Test.YtadbeajdccfceaaBdFnExactSigsOk
import Derived.WideShapes
import Derived.IntWalk
import Derived.OpenShut
namespace Go.Proofs.Ytadbeajdccfceaa.Pure
open Go.RowKit Go.Proofs.Ytadbeajdccfceaa.PFnExactSigsOk Go.Proofs.YtadbeajdccfceaaW.PrintWords Go.Proofs.YtadbeajdccfceaaW.PrintLast

/-! ### small facts on numbers, bytes and rounds -/
theorem w64 {n : Int} (h1 : -9223372036854775808 ≤ n) (h2 : n ≤ 9223372036854775807) : wrap64 n = n := by unfold wrap64; omega
theorem w64_range (n : Int) : -9223372036854775808 ≤ wrap64 n ∧ wrap64 n ≤ 9223372036854775807 := by unfold wrap64; omega
theorem xor_ok {x y : Int} (hx : 0 ≤ x) (hx2 : x < 4611686018427387904) (hy : 0 ≤ y) (hy2 : y < 4611686018427387904) : 0 ≤ Go.bits .xor .i64 x y ∧ Go.bits .xor .i64 x y < 4611686018427387904 := by
  have h1 : (BitVec.ofInt 64 x ^^^ BitVec.ofInt 64 y).toNat < 2 ^ 62 := by
    rw [BitVec.toNat_xor]
    apply Nat.xor_lt_two_pow
    · rw [BitVec.toNat_ofInt]; omega
    · rw [BitVec.toNat_ofInt]; omega
  have h2 : Go.bits .xor .i64 x y = ((BitVec.ofInt 64 x ^^^ BitVec.ofInt 64 y).toNat : Int) := by
    show IntKind.wrap .i64 ((BitVec.ofInt 64 x ^^^ BitVec.ofInt 64 y).toNat : Int) = _
    generalize (BitVec.ofInt 64 x ^^^ BitVec.ofInt 64 y).toNat = m at h1
    exact IntWalk.i64_in _ (by omega)
  rw [h2]; omega
theorem tmod_ok {x n : Int} (hx : 0 ≤ x) (hn : 1 ≤ n) : 0 ≤ Int.tmod x n ∧ Int.tmod x n < n := by
  rw [Int.tmod_eq_emod_of_nonneg hx]
  exact ⟨Int.emod_nonneg _ (by omega), Int.emod_lt_of_pos _ (by omega)⟩
theorem tdiv_ok {x n : Int} (hx : 0 ≤ x) (hn : 1 ≤ n) : 0 ≤ Int.tdiv x n ∧ Int.tdiv x n ≤ x := by
  rw [Int.tdiv_eq_ediv_of_nonneg hx]
  exact ⟨Int.ediv_nonneg hx (by omega), Int.ediv_le_self _ hx⟩
theorem rd_mem {xs : List Int} {i : Int} (h0 : 0 ≤ i) (h1 : i < (xs.length : Int)) : rd xs i ∈ xs := by
  have hl : i.toNat < xs.length := by omega
  unfold rd
  rw [List.getD_eq_getElem?_getD, List.getElem?_eq_getElem hl]
  exact List.getElem_mem hl
def Bytes (s : List Int) : Prop := ∀ x ∈ s, 0 ≤ x ∧ x ≤ 255
theorem bytes_of_wf {s : List Int} (h : ∀ x ∈ s, (Lit.int .u8 x).wf = true) : Bytes s := fun x hx => Go.bounds_u8 (h x hx)
theorem bytes_rd {s : List Int} (h : Bytes s) {i : Int} (h0 : 0 ≤ i) (h1 : i < (s.length : Int)) : 0 ≤ rd s i ∧ rd s i ≤ 255 := h _ (rd_mem h0 h1)
theorem toList_inj {a b : ByteArray} : a.toList = b.toList ↔ a = b := by
  rw [ByteArray.toList_eq, ByteArray.toList_eq]
  constructor
  · intro h; exact Go.WideShapes.bytes_inj h
  · rintro rfl; rfl
theorem toList_nil {a : ByteArray} : a.toList = ([] : List UInt8) ↔ a.size = 0 := by
  rw [ByteArray.toList_eq, List.eq_nil_iff_length_eq_zero, data_length]
/-! ### rows that are copied, and rows that are held against themselves -/
theorem to_gen {β : Type} {l0 : Nat → List β → Int → Option (List β)} (xs : List β) (K : Nat)
    (hstep : ∀ (k : Nat) (acc : List β) (i : Nat) (hi : i < xs.length), K ≤ k → acc.length = xs.length → l0 (k + 1) acc (i : Int) = l0 k (acc.set i (xs[i]'hi)) ((i + 1 : Nat) : Int))
    (hend : ∀ (k : Nat) (acc : List β), l0 (k + 1) acc (xs.length : Int) = some acc) :
    ∀ (k : Nat) (acc : List β), acc.length = xs.length → xs.length + K < k → l0 k acc 0 = some xs := by
  have key : ∀ (d : Nat) (k : Nat) (acc : List β) (i : Nat), i + d = xs.length → d + K < k → acc.length = xs.length → (∀ j, j < i → acc[j]? = xs[j]?) → l0 k acc (i : Int) = some xs := by
    intro d
    induction d with
    | zero =>
      intro k acc i hd hk hl hj
      obtain ⟨k, rfl⟩ : ∃ m, k = m + 1 := ⟨k - 1, by omega⟩
      obtain rfl : i = xs.length := by omega
      rw [hend]
      congr 1
      apply List.ext_getElem?
      intro j
      by_cases h : j < xs.length
      · exact hj j h
      · rw [List.getElem?_eq_none (by omega), List.getElem?_eq_none (by omega)]
    | succ d ih =>
      intro k acc i hd hk hl hj
      obtain ⟨k, rfl⟩ : ∃ m, k = m + 1 := ⟨k - 1, by omega⟩
      have hi : i < xs.length := by omega
      rw [hstep k acc i hi (by omega) hl]
      refine ih k _ (i + 1) (by omega) (by omega) (by rw [List.length_set]; exact hl) (fun j hjl => ?_)
      by_cases e : j = i
      · subst e
        rw [List.getElem?_set_self (by omega), List.getElem?_eq_getElem hi]
      · rw [List.getElem?_set_ne (by omega)]
        exact hj j (by omega)
  intro k acc hl hk
  exact key xs.length k acc 0 (by omega) (by omega) hl (fun j hj => absurd hj (Nat.not_lt_zero j))
theorem eq_gen {l0 : Nat → Int → Option Bool} (n : Nat) (K : Nat)
    (hstep : ∀ (k : Nat) (i : Nat), i < n → K ≤ k → l0 (k + 1) (i : Int) = l0 k ((i + 1 : Nat) : Int)) (hend : ∀ (k : Nat), l0 (k + 1) (n : Int) = some true) :
    ∀ (k : Nat), n + K < k → l0 k 0 = some true := by
  have key : ∀ (d : Nat) (k : Nat) (i : Nat), i + d = n → d + K < k → l0 k (i : Int) = some true := by
    intro d
    induction d with
    | zero =>
      intro k i hd hk
      obtain ⟨k, rfl⟩ : ∃ m, k = m + 1 := ⟨k - 1, by omega⟩
      obtain rfl : i = n := by omega
      exact hend k
    | succ d ih =>
      intro k i hd hk
      obtain ⟨k, rfl⟩ : ∃ m, k = m + 1 := ⟨k - 1, by omega⟩
      rw [hstep k i (by omega) (by omega)]
      exact ih k (i + 1) (by omega) (by omega)
  intro k hk
  exact key n k 0 (by omega) (by omega)
theorem rd_get {l : List Int} {i : Nat} (h : i < l.length) : rd l (i : Int) = l[i] := by simp [rd, h]
theorem rdOf_get {α : Type} {z : α} {l : List α} {i : Nat} (h : i < l.length) : rdOf z l (i : Int) = l[i] := by simp [rdOf, h]
theorem wsucc {i n : Nat} (h : i < n) (hn : n ≤ 4611686018427387904) : wrap64 ((i : Int) + 1) = ((i + 1 : Nat) : Int) := by rw [w64 (by omega) (by omega)]; omega
theorem toBoolS_ok (l : List Bool) (hl : l.length ≤ 17592186044416) {k : Nat} (hk : l.length < k) : laws_toBoolS.f k l = some l := by
  unfold laws_toBoolS.f
  rw [if_pos (by omega), if_pos (by omega)]
  refine to_gen (l0 := fun k acc i => laws_toBoolS.l0 k l acc i) l 0 ?_ ?_ k _ (by simp) (by omega)
  · intro k acc i hi _ ha
    show laws_toBoolS.l0 (k + 1) l acc (i : Int) = _
    rw [laws_toBoolS.l0, if_pos (by omega), if_pos (by omega), if_pos (by omega), wsucc hi (by omega), rdOf_get hi, Int.toNat_natCast]
  · intro k acc
    show laws_toBoolS.l0 (k + 1) l acc (l.length : Int) = _
    rw [laws_toBoolS.l0, if_neg (by omega)]
theorem toIntS_ok (l : List Int) (hl : l.length ≤ 17592186044416) {k : Nat} (hk : l.length < k) : laws_toIntS.f k l = some l := by
  unfold laws_toIntS.f
  rw [if_pos (by omega), if_pos (by omega)]
  refine to_gen (l0 := fun k acc i => laws_toIntS.l0 k l acc i) l 0 ?_ ?_ k _ (by simp) (by omega)
  · intro k acc i hi _ ha
    show laws_toIntS.l0 (k + 1) l acc (i : Int) = _
    rw [laws_toIntS.l0, if_pos (by omega), if_pos (by omega), if_pos (by omega), wsucc hi (by omega), rd_get hi, Int.toNat_natCast]
  · intro k acc
    show laws_toIntS.l0 (k + 1) l acc (l.length : Int) = _
    rw [laws_toIntS.l0, if_neg (by omega)]
theorem eqBoolS_ok (l : List Bool) (hl : l.length ≤ 17592186044416) {k : Nat} (hk : l.length < k) : laws_eqBoolS.f k l l = some true := by
  unfold laws_eqBoolS.f
  rw [if_pos rfl]
  refine eq_gen (l0 := fun k i => laws_eqBoolS.l0 k l l i) l.length 0 ?_ ?_ k (by omega)
  · intro k i hi _
    show laws_eqBoolS.l0 (k + 1) l l (i : Int) = _
    rw [laws_eqBoolS.l0, if_pos (by omega), if_pos (by omega), if_pos (by omega), wsucc hi (by omega)]
    simp
  · intro k
    show laws_eqBoolS.l0 (k + 1) l l (l.length : Int) = _
    rw [laws_eqBoolS.l0, if_neg (by omega)]
theorem eqIntS_ok (l : List Int) (hl : l.length ≤ 17592186044416) {k : Nat} (hk : l.length < k) : laws_eqIntS.f k l l = some true := by
  unfold laws_eqIntS.f
  rw [if_pos rfl]
  refine eq_gen (l0 := fun k i => laws_eqIntS.l0 k l l i) l.length 0 ?_ ?_ k (by omega)
  · intro k i hi _
    show laws_eqIntS.l0 (k + 1) l l (i : Int) = _
    rw [laws_eqIntS.l0, if_pos (by omega), if_pos (by omega), if_pos (by omega), wsucc hi (by omega)]
    simp
  · intro k
    show laws_eqIntS.l0 (k + 1) l l (l.length : Int) = _
    rw [laws_eqIntS.l0, if_neg (by omega)]
/-! ### SigsOk, of the program and of the reference -/
def sgStep (b : List Bool) (ds : List Int) (i : Nat) : Bool := (rd ds i == 0 || rd ds i == 1 || rd ds i == 4) && !(decide (i < 2) && (rdOf false b i || rd ds i != 0))
def sgFrom (b : List Bool) (ds : List Int) (i : Nat) : Nat → Bool
  | 0 => true
  | d + 1 => sgStep b ds i && sgFrom b ds (i + 1) d
theorem sg_impl (h b : List Bool) (ds : List Int) (hb : b.length = 8) (hd : ds.length = 8) (d : Nat) : ∀ (k i : Nat), i + d = 8 → d < k → impl_SigsOk.l0 k ds 8 (i : Int) h b ds = some (sgFrom b ds i d) := by
  induction d with
  | zero =>
    intro k i hi hk
    obtain ⟨k, rfl⟩ : ∃ m, k = m + 1 := ⟨k - 1, by omega⟩
    rw [impl_SigsOk.l0, if_neg (by omega)]; rfl
  | succ d ih =>
    intro k i hi hk
    obtain ⟨k, rfl⟩ : ∃ m, k = m + 1 := ⟨k - 1, by omega⟩
    have e := ih k (i + 1) (by omega) (by omega)
    have w : wrap64 ((i : Int) + 1) = ((i + 1 : Nat) : Int) := wsucc (show i < 8 by omega) (by omega)
    rw [impl_SigsOk.l0, if_pos (by omega), if_pos (by omega), if_pos (by omega), w, e]
    have hlt : ((i : Int) < (b.length : Int)) = True := eq_true (by omega)
    simp only [hlt, if_true, sgFrom, sgStep]
    generalize sgFrom b ds (i + 1) d = z
    generalize rd ds (i : Int) = x
    generalize rdOf false b (i : Int) = c
    have h1 : (((i + 1 : Nat) : Int) = 1) ↔ i = 0 := by omega
    have h2 : (((i + 1 : Nat) : Int) = 2) ↔ i = 1 := by omega
    simp only [h1, h2]
    by_cases i0 : i = 0
    · by_cases x0 : x = 0
      · cases c <;> simp [i0, x0]
      · by_cases x1 : x = 1
        · cases c <;> simp [i0, x1]
        · by_cases x4 : x = 4
          · cases c <;> simp [i0, x4]
          · simp [i0, x0, x1, x4]
    · by_cases i1 : i = 1
      · by_cases x0 : x = 0
        · cases c <;> simp [i1, x0]
        · by_cases x1 : x = 1
          · cases c <;> simp [i1, x1]
          · by_cases x4 : x = 4
            · cases c <;> simp [i1, x4]
            · simp [i1, x0, x1, x4]
      · have h3 : ¬ i < 2 := by omega
        by_cases x0 : x = 0
        · simp [i0, i1, x0, h3]
        · by_cases x1 : x = 1
          · simp [i0, i1, x1, h3]
          · by_cases x4 : x = 4
            · simp [i0, i1, x4, h3]
            · simp [i0, x0, x1, x4]
theorem sg_spec (h b : List Bool) (ds : List Int) (hb : b.length = 8) (hd : ds.length = 8) (d : Nat) : ∀ (k i : Nat), i + d = 8 → d < k → spec_SigsOk.l0 k (i : Int) h b ds = some (sgFrom b ds i d) := by
  induction d with
  | zero =>
    intro k i hi hk
    obtain ⟨k, rfl⟩ : ∃ m, k = m + 1 := ⟨k - 1, by omega⟩
    rw [spec_SigsOk.l0, if_neg (by omega)]; rfl
  | succ d ih =>
    intro k i hi hk
    obtain ⟨k, rfl⟩ : ∃ m, k = m + 1 := ⟨k - 1, by omega⟩
    have e := ih k (i + 1) (by omega) (by omega)
    have w : wrap64 ((i : Int) + 1) = ((i + 1 : Nat) : Int) := wsucc (show i < 8 by omega) (by omega)
    have fx : spec_l10Fixed.f (((i + 1 : Nat) : Int)) = some (decide (i < 2)) := by
      unfold spec_l10Fixed.f
      by_cases i0 : i = 0
      · simp [i0]
      · rw [if_neg (by omega)]
        by_cases i1 : i = 1
        · simp [i1]
        · have : ¬ i < 2 := by omega
          have e2 : (((i + 1 : Nat) : Int) == 2) = false := by rw [beq_eq_false_iff_ne]; omega
          rw [e2]; simp [this]
    rw [spec_SigsOk.l0, if_pos (by omega), if_pos (by omega), if_pos (by omega), w, e, fx]
    have hlt : ((i : Int) < (b.length : Int)) = True := eq_true (by omega)
    simp only [hlt, if_true, sgFrom, sgStep, Option.bind_some]
    generalize sgFrom b ds (i + 1) d = z
    generalize rd ds (i : Int) = x
    generalize rdOf false b (i : Int) = c
    by_cases i2 : i < 2
    · by_cases x0 : x = 0
      · cases c <;> simp [i2, x0]
      · by_cases x1 : x = 1
        · cases c <;> simp [i2, x1]
        · by_cases x4 : x = 4
          · cases c <;> simp [i2, x4]
          · simp [x0, x1, x4]
    · by_cases x0 : x = 0
      · simp [i2, x0]
      · by_cases x1 : x = 1
        · simp [i2, x1]
        · by_cases x4 : x = 4
          · simp [i2, x4]
          · simp [x0, x1, x4]
theorem sg_ok (h b : List Bool) (ds : List Int) {k : Nat} (hk : 10 ≤ k) : ∃ r, impl_SigsOk.f k h b ds = some r ∧ spec_SigsOk.f k h b ds = some r ∧ (r = true → h.length = 8 ∧ b.length = 8 ∧ ds.length = 8 ∧ sgFrom b ds 0 8 = true) := by
  obtain ⟨k, rfl⟩ : ∃ m, k = m + 1 := ⟨k - 1, by omega⟩
  unfold impl_SigsOk.f spec_SigsOk.f
  by_cases h1 : (h.length : Int) = 8
  · rw [if_pos h1, if_pos h1]
    by_cases h2 : (b.length : Int) = 8
    · rw [if_pos h2, if_pos h2]
      by_cases h3 : (ds.length : Int) = 8
      · have : ((ds.length : Int) != 8) = false := by simp [h3]
        rw [this, impl_SigsOk.j0, spec_SigsOk.j0, if_neg (by decide), if_neg (by decide), h3]
        have e1 := sg_impl h b ds (by omega) (by omega) 8 k 0 (by omega) (by omega)
        have e2 := sg_spec h b ds (by omega) (by omega) 8 k 0 (by omega) (by omega)
        exact ⟨_, e1, e2, fun hr => ⟨by omega, by omega, by omega, hr⟩⟩
      · have : ((ds.length : Int) != 8) = true := by simpa using h3
        rw [this, impl_SigsOk.j0, spec_SigsOk.j0, if_pos rfl, if_pos rfl]
        exact ⟨false, rfl, rfl, fun h => by cases h⟩
    · rw [if_neg h2, if_neg h2, impl_SigsOk.j0, spec_SigsOk.j0, if_pos rfl, if_pos rfl]
      exact ⟨false, rfl, rfl, fun h => by cases h⟩
  · rw [if_neg h1, if_neg h1, impl_SigsOk.j0, spec_SigsOk.j0, if_pos rfl, if_pos rfl]
    exact ⟨false, rfl, rfl, fun h => by cases h⟩

theorem szBool_le (l : List Bool) (a : Int) (hl : l.length ≤ 140737488351232) (h0 : 0 ≤ a) (h1 : a ≤ 1048576) : ∃ t, laws_szBoolS.f l a = some t ∧ t ≤ 1048576 ∧ (0 ≤ t → l.length ≤ 1048576) := by
  unfold laws_szBoolS.f
  rw [w64 (n := a - (l.length : Int)) (by omega) (by omega)]
  split
  · exact ⟨_, rfl, by omega, fun h => by omega⟩
  · exact ⟨_, rfl, by omega, fun h => by omega⟩
theorem szInt_le (l : List Int) (a : Int) (hl : l.length ≤ 140737488351232) (h0 : 0 ≤ a) (h1 : a ≤ 1048576) : ∃ t, laws_szIntS.f l a = some t ∧ t ≤ 1048576 ∧ (0 ≤ t → l.length ≤ 1048576) := by
  unfold laws_szIntS.f
  rw [w64 (n := a - (l.length : Int)) (by omega) (by omega)]
  split
  · exact ⟨_, rfl, by omega, fun h => by omega⟩
  · exact ⟨_, rfl, by omega, fun h => by omega⟩

theorem FnExactSigsOk : BdFnExactSigsOk.Pure := by
  intro h b ds ⟨⟨hl1, _⟩, ⟨hl2, _⟩, hl3, _⟩
  refine ⟨2000000, ?_⟩
  unfold laws_FnExactSigsOk.f laws_szSigs.f
  obtain ⟨t1, ht1, _, g1⟩ := szBool_le h 1048576 (by omega) (by omega) (by omega)
  rw [ht1]; simp only [Option.bind_some]
  by_cases c1 : t1 < 0
  · rw [if_pos c1]; rfl
  · rw [if_neg c1]
    obtain ⟨t2, ht2, _, g2⟩ := szBool_le b t1 (by omega) (by omega) (by omega)
    rw [ht2]; simp only [Option.bind_some]
    by_cases c2 : t2 < 0
    · rw [if_pos c2]; rfl
    · rw [if_neg c2]
      obtain ⟨t3, ht3, _, g3⟩ := szInt_le ds t2 (by omega) (by omega) (by omega)
      rw [ht3]; simp only [Option.bind_some]
      by_cases c3 : t3 < 0
      · rw [if_pos c3]; rfl
      · rw [if_neg c3]; simp only [Option.bind_some]
        rw [if_neg c3]
        have g1 := g1 (by omega)
        have g2 := g2 (by omega)
        have g3 := g3 (by omega)
        have hto : laws_toSigs.f 2000000 h b ds = some (h, b, ds) := by
          unfold laws_toSigs.f
          rw [toBoolS_ok h (by omega) (by omega)]; simp only [Option.bind_some]
          rw [toBoolS_ok b (by omega) (by omega)]; simp only [Option.bind_some]
          rw [toIntS_ok ds (by omega) (by omega)]; simp only [Option.bind_some]
        have heq : laws_eqSigs.f 2000000 h b ds h b ds = some true := by
          unfold laws_eqSigs.f
          rw [eqBoolS_ok h (by omega) (by omega)]; simp only [Option.bind_some, if_true]
          rw [eqBoolS_ok b (by omega) (by omega)]; simp only [Option.bind_some, if_true]
          rw [eqIntS_ok ds (by omega) (by omega)]; simp only [Option.bind_some, if_true]
        obtain ⟨r, h1, h2, _⟩ := sg_ok h b ds (k := 2000000) (by omega)
        rw [hto]; simp only [Option.bind_some]
        rw [h2]; simp only [Option.bind_some]
        rw [h1]; simp only [Option.bind_some]
        rw [heq]; simp

end Go.Proofs.Ytadbeajdccfceaa.Pure
