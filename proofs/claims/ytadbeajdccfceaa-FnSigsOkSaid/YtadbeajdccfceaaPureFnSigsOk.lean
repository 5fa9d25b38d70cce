/- Two signals are as they must be: at every code. -/
import Derived.Test.YtadbeajdccfceaaBdFnSigsOk
import Derived.WideShapes
import Derived.IntWalk
import Derived.OpenShut
namespace Go.Proofs.Ytadbeajdccfceaa.Pure
open Go.RowKit Go.Proofs.Ytadbeajdccfceaa.PFnSigsOk Go.Proofs.YtadbeajdccfceaaW.PrintWords Go.Proofs.YtadbeajdccfceaaW.PrintLast
/-! ### small facts on numbers, bytes and rounds -/
theorem w64 {n : Int} (h1 : -9223372036854775808 ≤ n) (h2 : n ≤ 9223372036854775807) : wrap64 n = n := by unfold wrap64; omega
theorem w64_range (n : Int) : -9223372036854775808 ≤ wrap64 n ∧ wrap64 n ≤ 9223372036854775807 := by unfold wrap64; omega
theorem xor_ok {x y : Int} (hx : 0 ≤ x) (hx2 : x < 4611686018427387904) (hy : 0 ≤ y) (hy2 : y < 4611686018427387904) : 0 ≤ Go.bits .xor .i64 x y ∧ Go.bits .xor .i64 x y < 4611686018427387904 := by
  have h1 : (BitVec.ofInt 64 x ^^^ BitVec.ofInt 64 y).toNat < 2 ^ 62 := by
    rw [BitVec.toNat_xor]
    apply Nat.xor_lt_two_pow
    · rw [BitVec.toNat_ofInt]; omega
    · rw [BitVec.toNat_ofInt]; omega
  have h2 : Go.bits .xor .i64 x y = ((BitVec.ofInt 64 x ^^^ BitVec.ofInt 64 y).toNat : Int) := by
    show IntKind.wrap .i64 ((BitVec.ofInt 64 x ^^^ BitVec.ofInt 64 y).toNat : Int) = _
    generalize (BitVec.ofInt 64 x ^^^ BitVec.ofInt 64 y).toNat = m at h1
    exact IntWalk.i64_in _ (by omega)
  rw [h2]; omega
theorem tmod_ok {x n : Int} (hx : 0 ≤ x) (hn : 1 ≤ n) : 0 ≤ Int.tmod x n ∧ Int.tmod x n < n := by
  rw [Int.tmod_eq_emod_of_nonneg hx]
  exact ⟨Int.emod_nonneg _ (by omega), Int.emod_lt_of_pos _ (by omega)⟩
theorem tdiv_ok {x n : Int} (hx : 0 ≤ x) (hn : 1 ≤ n) : 0 ≤ Int.tdiv x n ∧ Int.tdiv x n ≤ x := by
  rw [Int.tdiv_eq_ediv_of_nonneg hx]
  exact ⟨Int.ediv_nonneg hx (by omega), Int.ediv_le_self _ hx⟩
theorem rd_mem {xs : List Int} {i : Int} (h0 : 0 ≤ i) (h1 : i < (xs.length : Int)) : rd xs i ∈ xs := by
  have hl : i.toNat < xs.length := by omega
  unfold rd
  rw [List.getD_eq_getElem?_getD, List.getElem?_eq_getElem hl]
  exact List.getElem_mem hl
def Bytes (s : List Int) : Prop := ∀ x ∈ s, 0 ≤ x ∧ x ≤ 255
theorem bytes_of_wf {s : List Int} (h : ∀ x ∈ s, (Lit.int .u8 x).wf = true) : Bytes s := fun x hx => Go.bounds_u8 (h x hx)
theorem bytes_rd {s : List Int} (h : Bytes s) {i : Int} (h0 : 0 ≤ i) (h1 : i < (s.length : Int)) : 0 ≤ rd s i ∧ rd s i ≤ 255 := h _ (rd_mem h0 h1)
theorem toList_inj {a b : ByteArray} : a.toList = b.toList ↔ a = b := by
  rw [ByteArray.toList_eq, ByteArray.toList_eq]
  constructor
  · intro h; exact Go.WideShapes.bytes_inj h
  · rintro rfl; rfl
theorem toList_nil {a : ByteArray} : a.toList = ([] : List UInt8) ↔ a.size = 0 := by
  rw [ByteArray.toList_eq, List.eq_nil_iff_length_eq_zero, data_length]
/-! ### the reader of a code: l6Open, pick -/
theorem open_ok {l0 : List Int} (hb : Bytes l0) : ∃ s, spec_l6Open.f l0 = some (s, 0) ∧ Bytes s ∧ s.length ≤ 2000 := by
  unfold spec_l6Open.f
  by_cases h : (l0.length : Int) > 2000
  · rw [if_pos h, if_pos (by omega)]
    exact ⟨_, rfl, fun x hx => hb x (List.mem_of_mem_take hx), by rw [List.length_take]; omega⟩
  · rw [if_neg h]
    exact ⟨_, rfl, hb, by omega⟩
theorem pick_ok {s : List Int} (hb : Bytes s) (hs : s.length ≤ 2000) {p : Int} (hp0 : 0 ≤ p) (hp1 : p ≤ 1000000000) (n : Int) {k : Nat} (hk : 1 ≤ k) :
    ∃ v, spec_l6Rd_pick.f k s p n = some (v, p + 1) ∧ 0 ≤ v ∧ (1 ≤ n → v < n) ∧ (n < 1 → v = 0) := by
  obtain ⟨k, rfl⟩ : ∃ m, k = m + 1 := ⟨k - 1, by omega⟩
  have e1 : wrap64 (p + 1) = p + 1 := w64 (by omega) (by omega)
  have e2 : wrap64 (p + 1 - 1) = p := by rw [show p + 1 - 1 = p by omega]; exact w64 (by omega) (by omega)
  unfold spec_l6Rd_pick.f
  by_cases hn : n < 1
  · rw [if_pos hn]; simp only [spec_l6Rd_pick.j0, if_true, e1]
    exact ⟨0, rfl, by omega, by omega, fun _ => rfl⟩
  · rw [if_neg hn]; simp only [spec_l6Rd_pick.j0, e1, e2]
    by_cases h0 : (s.length : Int) = 0
    · have : ((s.length : Int) == 0) = true := by simp [h0]
      rw [this, if_pos rfl]
      exact ⟨0, rfl, by omega, by omega, fun _ => rfl⟩
    · have : ((s.length : Int) == 0) = false := by simpa using h0
      rw [this, if_neg (by decide)]
      by_cases hl : p < (s.length : Int)
      · rw [if_pos hl, if_pos hp0, if_neg (by omega)]
        have hr := bytes_rd hb hp0 hl
        rw [w64 (n := rd s p) (by omega) (by omega)]
        have ht := tmod_ok hr.1 (show 1 ≤ n by omega)
        exact ⟨_, rfl, ht.1, fun _ => ht.2, by omega⟩
      · rw [if_neg hl, if_neg h0]
        have a1 := tmod_ok (x := p) (n := (s.length : Int)) hp0 (by omega)
        rw [if_pos a1.1, if_pos a1.2]
        have e3 : wrap64 (p * 7) = p * 7 := w64 (by omega) (by omega)
        have e4 : wrap64 (p * 7 + 3) = p * 7 + 3 := w64 (by omega) (by omega)
        simp only [e3, e4]
        have a2 := tmod_ok (x := p * 7 + 3) (n := (s.length : Int)) (by omega) (by omega)
        rw [if_pos a2.1, if_pos a2.2, if_neg (by omega)]
        have b1 := bytes_rd hb a1.1 a1.2
        have b2 := bytes_rd hb a2.1 a2.2
        have a3 := tdiv_ok (x := p) (n := (s.length : Int)) hp0 (by omega)
        generalize rd s (p.tmod (s.length : Int)) = x1 at b1 ⊢
        generalize rd s ((p * 7 + 3).tmod (s.length : Int)) = x2 at b2 ⊢
        generalize p.tdiv (s.length : Int) = x3 at a3 ⊢
        have c1 : wrap64 x1 = x1 := w64 (by omega) (by omega)
        have c2 : wrap64 x2 = x2 := w64 (by omega) (by omega)
        have c3 : wrap64 x3 = x3 := w64 (by omega) (by omega)
        have c4 : wrap64 (x1 * 131) = x1 * 131 := w64 (by omega) (by omega)
        have c5 : wrap64 (x2 * 1117) = x2 * 1117 := w64 (by omega) (by omega)
        have c6 : wrap64 (x1 * 131 + x2 * 1117) = x1 * 131 + x2 * 1117 := w64 (by omega) (by omega)
        have c7 : wrap64 (p * 29) = p * 29 := w64 (by omega) (by omega)
        have c8 : wrap64 (x1 * 131 + x2 * 1117 + p * 29) = x1 * 131 + x2 * 1117 + p * 29 := w64 (by omega) (by omega)
        have c9 : wrap64 (x3 * 53) = x3 * 53 := w64 (by omega) (by omega)
        have c10 : wrap64 (x1 * 131 + x2 * 1117 + p * 29 + x3 * 53) = x1 * 131 + x2 * 1117 + p * 29 + x3 * 53 := w64 (by omega) (by omega)
        simp only [c1, c2, c3, c4, c5, c6, c7, c8, c9, c10]
        have a4 := tdiv_ok (x := x1 * 131 + x2 * 1117 + p * 29 + x3 * 53) (n := 64) (by omega) (by omega)
        have c11 : wrap64 ((x1 * 131 + x2 * 1117 + p * 29 + x3 * 53).tdiv 64) = (x1 * 131 + x2 * 1117 + p * 29 + x3 * 53).tdiv 64 := w64 (by omega) (by omega)
        rw [c11]
        have a5 := xor_ok (x := x1 * 131 + x2 * 1117 + p * 29 + x3 * 53) (y := (x1 * 131 + x2 * 1117 + p * 29 + x3 * 53).tdiv 64) (by omega) (by omega) a4.1 (by omega)
        have a6 := tmod_ok a5.1 (show 1 ≤ n by omega)
        exact ⟨_, rfl, a6.1, fun _ => a6.2, by omega⟩
/-! ### rows that are copied, and rows that are held against themselves -/
theorem to_gen {β : Type} {l0 : Nat → List β → Int → Option (List β)} (xs : List β) (K : Nat)
    (hstep : ∀ (k : Nat) (acc : List β) (i : Nat) (hi : i < xs.length), K ≤ k → acc.length = xs.length → l0 (k + 1) acc (i : Int) = l0 k (acc.set i (xs[i]'hi)) ((i + 1 : Nat) : Int))
    (hend : ∀ (k : Nat) (acc : List β), l0 (k + 1) acc (xs.length : Int) = some acc) :
    ∀ (k : Nat) (acc : List β), acc.length = xs.length → xs.length + K < k → l0 k acc 0 = some xs := by
  have key : ∀ (d : Nat) (k : Nat) (acc : List β) (i : Nat), i + d = xs.length → d + K < k → acc.length = xs.length → (∀ j, j < i → acc[j]? = xs[j]?) → l0 k acc (i : Int) = some xs := by
    intro d
    induction d with
    | zero =>
      intro k acc i hd hk hl hj
      obtain ⟨k, rfl⟩ : ∃ m, k = m + 1 := ⟨k - 1, by omega⟩
      obtain rfl : i = xs.length := by omega
      rw [hend]
      congr 1
      apply List.ext_getElem?
      intro j
      by_cases h : j < xs.length
      · exact hj j h
      · rw [List.getElem?_eq_none (by omega), List.getElem?_eq_none (by omega)]
    | succ d ih =>
      intro k acc i hd hk hl hj
      obtain ⟨k, rfl⟩ : ∃ m, k = m + 1 := ⟨k - 1, by omega⟩
      have hi : i < xs.length := by omega
      rw [hstep k acc i hi (by omega) hl]
      refine ih k _ (i + 1) (by omega) (by omega) (by rw [List.length_set]; exact hl) (fun j hjl => ?_)
      by_cases e : j = i
      · subst e
        rw [List.getElem?_set_self (by omega), List.getElem?_eq_getElem hi]
      · rw [List.getElem?_set_ne (by omega)]
        exact hj j (by omega)
  intro k acc hl hk
  exact key xs.length k acc 0 (by omega) (by omega) hl (fun j hj => absurd hj (Nat.not_lt_zero j))
theorem eq_gen {l0 : Nat → Int → Option Bool} (n : Nat) (K : Nat)
    (hstep : ∀ (k : Nat) (i : Nat), i < n → K ≤ k → l0 (k + 1) (i : Int) = l0 k ((i + 1 : Nat) : Int)) (hend : ∀ (k : Nat), l0 (k + 1) (n : Int) = some true) :
    ∀ (k : Nat), n + K < k → l0 k 0 = some true := by
  have key : ∀ (d : Nat) (k : Nat) (i : Nat), i + d = n → d + K < k → l0 k (i : Int) = some true := by
    intro d
    induction d with
    | zero =>
      intro k i hd hk
      obtain ⟨k, rfl⟩ : ∃ m, k = m + 1 := ⟨k - 1, by omega⟩
      obtain rfl : i = n := by omega
      exact hend k
    | succ d ih =>
      intro k i hd hk
      obtain ⟨k, rfl⟩ : ∃ m, k = m + 1 := ⟨k - 1, by omega⟩
      rw [hstep k i (by omega) (by omega)]
      exact ih k (i + 1) (by omega) (by omega)
  intro k hk
  exact key n k 0 (by omega) (by omega)
theorem rd_get {l : List Int} {i : Nat} (h : i < l.length) : rd l (i : Int) = l[i] := by simp [rd, h]
theorem rdOf_get {α : Type} {z : α} {l : List α} {i : Nat} (h : i < l.length) : rdOf z l (i : Int) = l[i] := by simp [rdOf, h]
theorem wsucc {i n : Nat} (h : i < n) (hn : n ≤ 4611686018427387904) : wrap64 ((i : Int) + 1) = ((i + 1 : Nat) : Int) := by rw [w64 (by omega) (by omega)]; omega
/-! ### SigsOk, of the program and of the reference -/
def sgStep (b : List Bool) (ds : List Int) (i : Nat) : Bool := (rd ds i == 0 || rd ds i == 1 || rd ds i == 4) && !(decide (i < 2) && (rdOf false b i || rd ds i != 0))
def sgFrom (b : List Bool) (ds : List Int) (i : Nat) : Nat → Bool
  | 0 => true
  | d + 1 => sgStep b ds i && sgFrom b ds (i + 1) d
theorem sg_impl (h b : List Bool) (ds : List Int) (hb : b.length = 8) (hd : ds.length = 8) (d : Nat) : ∀ (k i : Nat), i + d = 8 → d < k → impl_SigsOk.l0 k ds 8 (i : Int) h b ds = some (sgFrom b ds i d) := by
  induction d with
  | zero =>
    intro k i hi hk
    obtain ⟨k, rfl⟩ : ∃ m, k = m + 1 := ⟨k - 1, by omega⟩
    rw [impl_SigsOk.l0, if_neg (by omega)]; rfl
  | succ d ih =>
    intro k i hi hk
    obtain ⟨k, rfl⟩ : ∃ m, k = m + 1 := ⟨k - 1, by omega⟩
    have e := ih k (i + 1) (by omega) (by omega)
    have w : wrap64 ((i : Int) + 1) = ((i + 1 : Nat) : Int) := wsucc (show i < 8 by omega) (by omega)
    rw [impl_SigsOk.l0, if_pos (by omega), if_pos (by omega), if_pos (by omega), w, e]
    have hlt : ((i : Int) < (b.length : Int)) = True := eq_true (by omega)
    simp only [hlt, if_true, sgFrom, sgStep]
    generalize sgFrom b ds (i + 1) d = z
    generalize rd ds (i : Int) = x
    generalize rdOf false b (i : Int) = c
    have h1 : (((i + 1 : Nat) : Int) = 1) ↔ i = 0 := by omega
    have h2 : (((i + 1 : Nat) : Int) = 2) ↔ i = 1 := by omega
    simp only [h1, h2]
    by_cases i0 : i = 0
    · by_cases x0 : x = 0
      · cases c <;> simp [i0, x0]
      · by_cases x1 : x = 1
        · cases c <;> simp [i0, x1]
        · by_cases x4 : x = 4
          · cases c <;> simp [i0, x4]
          · simp [i0, x0, x1, x4]
    · by_cases i1 : i = 1
      · by_cases x0 : x = 0
        · cases c <;> simp [i1, x0]
        · by_cases x1 : x = 1
          · cases c <;> simp [i1, x1]
          · by_cases x4 : x = 4
            · cases c <;> simp [i1, x4]
            · simp [i1, x0, x1, x4]
      · have h3 : ¬ i < 2 := by omega
        by_cases x0 : x = 0
        · simp [i0, i1, x0, h3]
        · by_cases x1 : x = 1
          · simp [i0, i1, x1, h3]
          · by_cases x4 : x = 4
            · simp [i0, i1, x4, h3]
            · simp [i0, x0, x1, x4]
theorem sg_spec (h b : List Bool) (ds : List Int) (hb : b.length = 8) (hd : ds.length = 8) (d : Nat) : ∀ (k i : Nat), i + d = 8 → d < k → spec_SigsOk.l0 k (i : Int) h b ds = some (sgFrom b ds i d) := by
  induction d with
  | zero =>
    intro k i hi hk
    obtain ⟨k, rfl⟩ : ∃ m, k = m + 1 := ⟨k - 1, by omega⟩
    rw [spec_SigsOk.l0, if_neg (by omega)]; rfl
  | succ d ih =>
    intro k i hi hk
    obtain ⟨k, rfl⟩ : ∃ m, k = m + 1 := ⟨k - 1, by omega⟩
    have e := ih k (i + 1) (by omega) (by omega)
    have w : wrap64 ((i : Int) + 1) = ((i + 1 : Nat) : Int) := wsucc (show i < 8 by omega) (by omega)
    have fx : spec_l10Fixed.f (((i + 1 : Nat) : Int)) = some (decide (i < 2)) := by
      unfold spec_l10Fixed.f
      by_cases i0 : i = 0
      · simp [i0]
      · rw [if_neg (by omega)]
        by_cases i1 : i = 1
        · simp [i1]
        · have : ¬ i < 2 := by omega
          have e2 : (((i + 1 : Nat) : Int) == 2) = false := by rw [beq_eq_false_iff_ne]; omega
          rw [e2]; simp [this]
    rw [spec_SigsOk.l0, if_pos (by omega), if_pos (by omega), if_pos (by omega), w, e, fx]
    have hlt : ((i : Int) < (b.length : Int)) = True := eq_true (by omega)
    simp only [hlt, if_true, sgFrom, sgStep, Option.bind_some]
    generalize sgFrom b ds (i + 1) d = z
    generalize rd ds (i : Int) = x
    generalize rdOf false b (i : Int) = c
    by_cases i2 : i < 2
    · by_cases x0 : x = 0
      · cases c <;> simp [i2, x0]
      · by_cases x1 : x = 1
        · cases c <;> simp [i2, x1]
        · by_cases x4 : x = 4
          · cases c <;> simp [i2, x4]
          · simp [x0, x1, x4]
    · by_cases x0 : x = 0
      · simp [i2, x0]
      · by_cases x1 : x = 1
        · simp [i2, x1]
        · by_cases x4 : x = 4
          · simp [i2, x4]
          · simp [x0, x1, x4]
theorem sg_ok (h b : List Bool) (ds : List Int) {k : Nat} (hk : 10 ≤ k) : ∃ r, impl_SigsOk.f k h b ds = some r ∧ spec_SigsOk.f k h b ds = some r ∧ (r = true → h.length = 8 ∧ b.length = 8 ∧ ds.length = 8 ∧ sgFrom b ds 0 8 = true) := by
  obtain ⟨k, rfl⟩ : ∃ m, k = m + 1 := ⟨k - 1, by omega⟩
  unfold impl_SigsOk.f spec_SigsOk.f
  by_cases h1 : (h.length : Int) = 8
  · rw [if_pos h1, if_pos h1]
    by_cases h2 : (b.length : Int) = 8
    · rw [if_pos h2, if_pos h2]
      by_cases h3 : (ds.length : Int) = 8
      · have : ((ds.length : Int) != 8) = false := by simp [h3]
        rw [this, impl_SigsOk.j0, spec_SigsOk.j0, if_neg (by decide), if_neg (by decide), h3]
        have e1 := sg_impl h b ds (by omega) (by omega) 8 k 0 (by omega) (by omega)
        have e2 := sg_spec h b ds (by omega) (by omega) 8 k 0 (by omega) (by omega)
        exact ⟨_, e1, e2, fun hr => ⟨by omega, by omega, by omega, hr⟩⟩
      · have : ((ds.length : Int) != 8) = true := by simpa using h3
        rw [this, impl_SigsOk.j0, spec_SigsOk.j0, if_pos rfl, if_pos rfl]
        exact ⟨false, rfl, rfl, fun h => by cases h⟩
    · rw [if_neg h2, if_neg h2, impl_SigsOk.j0, spec_SigsOk.j0, if_pos rfl, if_pos rfl]
      exact ⟨false, rfl, rfl, fun h => by cases h⟩
  · rw [if_neg h1, if_neg h1, impl_SigsOk.j0, spec_SigsOk.j0, if_pos rfl, if_pos rfl]
    exact ⟨false, rfl, rfl, fun h => by cases h⟩

theorem sigs_loop {s : List Int} (hb : Bytes s) (hs : s.length ≤ 2000) (d : Nat) : ∀ (k i : Nat) (p : Int) (h b : List Bool) (ds : List Int), i + d = 8 → d + 2 < k → h.length = 8 → b.length = 8 → ds.length = 8 → 0 ≤ p → p ≤ 1000 + 3 * i →
    ∃ h' b' ds' p', spec_l92Sigs.l0 k (i : Int) s p h b ds = some (h', b', ds', p') := by
  induction d with
  | zero =>
    intro k i p h b ds hi hk h1 h2 h3 hp0 hp1
    obtain ⟨k, rfl⟩ : ∃ m, k = m + 1 := ⟨k - 1, by omega⟩
    obtain ⟨x, hx, _, _, _⟩ := pick_ok hb hs (p := p) hp0 (by omega) 24 (k := k) (by omega)
    obtain ⟨a, ha, a0, a1, _⟩ := pick_ok hb hs (p := p + 1) (by omega) (by omega) 8 (k := k) (by omega)
    obtain ⟨c, hc, _, _, _⟩ := pick_ok hb hs (p := p + 1 + 1) (by omega) (by omega) 6 (k := k) (by omega)
    obtain ⟨e, he, e0, e1, _⟩ := pick_ok hb hs (p := p + 1) (by omega) (by omega) 2 (k := k) (by omega)
    have a1 := a1 (by omega)
    have e1 := e1 (by omega)
    rw [spec_l92Sigs.l0, if_neg (by omega), hx]
    simp only [Option.bind_some]
    by_cases c0 : x = 0
    · rw [if_pos c0, ha]; simp only [Option.bind_some]
      rw [hc]; simp only [Option.bind_some]
      rw [if_pos a0, if_pos (by omega)]
      exact ⟨_, _, _, _, rfl⟩
    · rw [if_neg c0]
      by_cases c1 : x = 1
      · rw [if_pos c1, he]; simp only [Option.bind_some]
        rw [if_pos e0, if_pos (by omega)]
        exact ⟨_, _, _, _, rfl⟩
      · rw [if_neg c1]
        by_cases c2 : x = 2
        · rw [if_pos c2, if_pos (by omega)]
          exact ⟨_, _, _, _, rfl⟩
        · rw [if_neg c2]
          exact ⟨_, _, _, _, rfl⟩
  | succ d ih =>
    intro k i p h b ds hi hk h1 h2 h3 hp0 hp1
    obtain ⟨k, rfl⟩ : ∃ m, k = m + 1 := ⟨k - 1, by omega⟩
    obtain ⟨x, hx, _, _, _⟩ := pick_ok hb hs (p := p) hp0 (by omega) 3 (k := k) (by omega)
    obtain ⟨y, hy, _, _, _⟩ := pick_ok hb hs (p := p + 1) (by omega) (by omega) 3 (k := k) (by omega)
    obtain ⟨z, hz, z0, z1, _⟩ := pick_ok hb hs (p := p + 1 + 1) (by omega) (by omega) 4 (k := k) (by omega)
    have z1 := z1 (by omega)
    have q0 : (i : Int) < 8 := by omega
    have q1 : (i : Int) < (h.length : Int) := by omega
    have q2 : 0 ≤ (i : Int) := by omega
    have w : wrap64 ((i : Int) + 1) = ((i + 1 : Nat) : Int) := wsucc (show i < 8 by omega) (by omega)
    have hf : ∃ f, spec_l10Fixed.f (((i + 1 : Nat) : Int)) = some f := by
      unfold spec_l10Fixed.f
      split <;> exact ⟨_, rfl⟩
    obtain ⟨f, hf⟩ := hf
    have q3 : (i : Int) < (b.length : Int) := by clear w; omega
    have q4 : (i : Int) < (ds.length : Int) := by clear w; omega
    rw [spec_l92Sigs.l0, if_pos q0, hx, Option.bind_some, if_pos q2, if_pos q1, Option.bind_some, w, hf, Option.bind_some]
    clear w hf
    by_cases c : f = true
    · rw [if_pos c]
      exact ih k (i + 1) (p + 1) _ b ds (by omega) (by omega) (by rw [List.length_set]; exact h1) h2 h3 (by omega) (by omega)
    · rw [if_neg c, hy, Option.bind_some, if_pos q3, Option.bind_some, hz, Option.bind_some, if_pos z0, if_pos (show z < ((List.length [(0 : Int), 0, 1, 4] : Nat) : Int) from by simpa using z1), if_pos q4]
      exact ih k (i + 1) (p + 1 + 1 + 1) _ _ _ (by omega) (by omega) (by rw [List.length_set]; exact h1) (by rw [List.length_set]; exact h2) (by rw [List.length_set]; exact h3) (by omega) (by omega)

theorem FnSigsOk : BdFnSigsOk.Pure := by
  intro l0 ⟨_, hwf⟩
  obtain ⟨K, hK⟩ : ∃ K : Nat, 100 ≤ K := ⟨100, Nat.le_refl _⟩
  refine ⟨K, ?_⟩
  unfold laws_FnSigsOk.f
  by_cases hl : (l0.length : Int) > 1048576
  · rw [if_pos hl]
  · rw [if_neg hl]
    obtain ⟨s, ho, hb, hs⟩ := open_ok (bytes_of_wf hwf)
    obtain ⟨h, b, ds, p, hd⟩ := sigs_loop hb hs 8 K 0 0 (List.replicate 8 false) (List.replicate 8 false) (List.replicate 8 0) (by omega) (by omega) (by simp) (by simp) (by simp) (by omega) (by omega)
    have hdraw : spec_DrawSigsOk.f K l0 = some (h, b, ds) := by
      unfold spec_DrawSigsOk.f spec_l92Sigs.f spec_SigsNew.f
      rw [ho]; simp only [Option.bind_some]
      rw [if_pos (by omega), if_pos (by omega)]; simp only [Option.bind_some]
      rw [show ((0 : Nat) : Int) = 0 from rfl] at hd
      rw [hd]; simp only [Option.bind_some]
    rw [hdraw]; simp only [Option.bind_some]
    obtain ⟨r, h1, h2, h3⟩ := sg_ok h b ds (k := K) (by omega)
    rw [h1]; simp only [Option.bind_some]
    rw [h2]; simp only [Option.bind_some, beq_self_eq_true, if_true]
    cases r with
    | false => simp
    | true =>
      obtain ⟨_, hb8, hd8, hg⟩ := h3 rfl
      simp only [sgFrom, Bool.and_eq_true] at hg
      obtain ⟨g0, g1, _⟩ := hg
      simp only [sgStep, Bool.and_eq_true, Bool.not_eq_true', Bool.and_eq_false_iff, decide_eq_false_iff_not, Bool.or_eq_false_iff, bne_eq_false_iff_eq] at g0 g1
      have q0 := g0.2.resolve_left (by omega)
      have q1 := g1.2.resolve_left (by omega)
      have e0 : rdOf false b 0 = false := q0.1
      have e1 : rd ds 0 = 0 := q0.2
      have e2 : rdOf false b 1 = false := q1.1
      have e3 : rd ds 1 = 0 := q1.2
      rw [if_pos rfl, if_pos (by omega), if_neg (by rw [e0]; decide), if_pos (by omega), if_neg (by rw [e2]; decide), if_pos (by omega), if_pos e1, if_pos (by omega), e3]
      rfl

end Go.Proofs.Ytadbeajdccfceaa.Pure
