/- The program's LockOk and the reference's answer alike at every lock. -/
import Derived.Test.YtecniihieninjaaBdFnExactLockOk
import Derived.WideShapes
import Derived.IntWalk
import Derived.OpenShut
namespace Go.Proofs.Ytecniihieninjaa.Pure
open Go.RowKit Go.Proofs.Ytecniihieninjaa.XFnExactLockOk Go.Proofs.YtecniihieninjaaW.PrintWords Go.Proofs.YtecniihieninjaaW.PrintLast
/-! ### small facts on numbers, bytes and rounds -/
theorem w64 {n : Int} (h1 : -9223372036854775808 ≤ n) (h2 : n ≤ 9223372036854775807) : wrap64 n = n := by unfold wrap64; omega
theorem w64_range (n : Int) : -9223372036854775808 ≤ wrap64 n ∧ wrap64 n ≤ 9223372036854775807 := by unfold wrap64; omega
theorem xor_ok {x y : Int} (hx : 0 ≤ x) (hx2 : x < 4611686018427387904) (hy : 0 ≤ y) (hy2 : y < 4611686018427387904) : 0 ≤ Go.bits .xor .i64 x y ∧ Go.bits .xor .i64 x y < 4611686018427387904 := by
  have h1 : (BitVec.ofInt 64 x ^^^ BitVec.ofInt 64 y).toNat < 2 ^ 62 := by
    rw [BitVec.toNat_xor]
    apply Nat.xor_lt_two_pow
    · rw [BitVec.toNat_ofInt]; omega
    · rw [BitVec.toNat_ofInt]; omega
  have h2 : Go.bits .xor .i64 x y = ((BitVec.ofInt 64 x ^^^ BitVec.ofInt 64 y).toNat : Int) := by
    show IntKind.wrap .i64 ((BitVec.ofInt 64 x ^^^ BitVec.ofInt 64 y).toNat : Int) = _
    generalize (BitVec.ofInt 64 x ^^^ BitVec.ofInt 64 y).toNat = m at h1
    exact IntWalk.i64_in _ (by omega)
  rw [h2]; omega
theorem tmod_ok {x n : Int} (hx : 0 ≤ x) (hn : 1 ≤ n) : 0 ≤ Int.tmod x n ∧ Int.tmod x n < n := by
  rw [Int.tmod_eq_emod_of_nonneg hx]
  exact ⟨Int.emod_nonneg _ (by omega), Int.emod_lt_of_pos _ (by omega)⟩
theorem tdiv_ok {x n : Int} (hx : 0 ≤ x) (hn : 1 ≤ n) : 0 ≤ Int.tdiv x n ∧ Int.tdiv x n ≤ x := by
  rw [Int.tdiv_eq_ediv_of_nonneg hx]
  exact ⟨Int.ediv_nonneg hx (by omega), Int.ediv_le_self _ hx⟩
theorem rd_mem {xs : List Int} {i : Int} (h0 : 0 ≤ i) (h1 : i < (xs.length : Int)) : rd xs i ∈ xs := by
  have hl : i.toNat < xs.length := by omega
  unfold rd
  rw [List.getD_eq_getElem?_getD, List.getElem?_eq_getElem hl]
  exact List.getElem_mem hl
def Bytes (s : List Int) : Prop := ∀ x ∈ s, 0 ≤ x ∧ x ≤ 255
theorem bytes_of_wf {s : List Int} (h : ∀ x ∈ s, (Lit.int .u8 x).wf = true) : Bytes s := fun x hx => Go.bounds_u8 (h x hx)
theorem bytes_rd {s : List Int} (h : Bytes s) {i : Int} (h0 : 0 ≤ i) (h1 : i < (s.length : Int)) : 0 ≤ rd s i ∧ rd s i ≤ 255 := h _ (rd_mem h0 h1)
theorem toList_inj {a b : ByteArray} : a.toList = b.toList ↔ a = b := by
  rw [ByteArray.toList_eq, ByteArray.toList_eq]
  constructor
  · intro h; exact Go.WideShapes.bytes_inj h
  · rintro rfl; rfl
theorem toList_nil {a : ByteArray} : a.toList = ([] : List UInt8) ↔ a.size = 0 := by
  rw [ByteArray.toList_eq, List.eq_nil_iff_length_eq_zero, data_length]
/-! ### rows that are copied, and rows that are held against themselves -/
theorem to_gen {β : Type} {l0 : Nat → List β → Int → Option (List β)} (xs : List β) (K : Nat)
    (hstep : ∀ (k : Nat) (acc : List β) (i : Nat) (hi : i < xs.length), K ≤ k → acc.length = xs.length → l0 (k + 1) acc (i : Int) = l0 k (acc.set i (xs[i]'hi)) ((i + 1 : Nat) : Int))
    (hend : ∀ (k : Nat) (acc : List β), l0 (k + 1) acc (xs.length : Int) = some acc) :
    ∀ (k : Nat) (acc : List β), acc.length = xs.length → xs.length + K < k → l0 k acc 0 = some xs := by
  have key : ∀ (d : Nat) (k : Nat) (acc : List β) (i : Nat), i + d = xs.length → d + K < k → acc.length = xs.length → (∀ j, j < i → acc[j]? = xs[j]?) → l0 k acc (i : Int) = some xs := by
    intro d
    induction d with
    | zero =>
      intro k acc i hd hk hl hj
      obtain ⟨k, rfl⟩ : ∃ m, k = m + 1 := ⟨k - 1, by omega⟩
      obtain rfl : i = xs.length := by omega
      rw [hend]
      congr 1
      apply List.ext_getElem?
      intro j
      by_cases h : j < xs.length
      · exact hj j h
      · rw [List.getElem?_eq_none (by omega), List.getElem?_eq_none (by omega)]
    | succ d ih =>
      intro k acc i hd hk hl hj
      obtain ⟨k, rfl⟩ : ∃ m, k = m + 1 := ⟨k - 1, by omega⟩
      have hi : i < xs.length := by omega
      rw [hstep k acc i hi (by omega) hl]
      refine ih k _ (i + 1) (by omega) (by omega) (by rw [List.length_set]; exact hl) (fun j hjl => ?_)
      by_cases e : j = i
      · subst e
        rw [List.getElem?_set_self (by omega), List.getElem?_eq_getElem hi]
      · rw [List.getElem?_set_ne (by omega)]
        exact hj j (by omega)
  intro k acc hl hk
  exact key xs.length k acc 0 (by omega) (by omega) hl (fun j hj => absurd hj (Nat.not_lt_zero j))
theorem eq_gen {l0 : Nat → Int → Option Bool} (n : Nat) (K : Nat)
    (hstep : ∀ (k : Nat) (i : Nat), i < n → K ≤ k → l0 (k + 1) (i : Int) = l0 k ((i + 1 : Nat) : Int)) (hend : ∀ (k : Nat), l0 (k + 1) (n : Int) = some true) :
    ∀ (k : Nat), n + K < k → l0 k 0 = some true := by
  have key : ∀ (d : Nat) (k : Nat) (i : Nat), i + d = n → d + K < k → l0 k (i : Int) = some true := by
    intro d
    induction d with
    | zero =>
      intro k i hd hk
      obtain ⟨k, rfl⟩ : ∃ m, k = m + 1 := ⟨k - 1, by omega⟩
      obtain rfl : i = n := by omega
      exact hend k
    | succ d ih =>
      intro k i hd hk
      obtain ⟨k, rfl⟩ : ∃ m, k = m + 1 := ⟨k - 1, by omega⟩
      rw [hstep k i (by omega) (by omega)]
      exact ih k (i + 1) (by omega) (by omega)
  intro k hk
  exact key n k 0 (by omega) (by omega)
theorem rd_get {l : List Int} {i : Nat} (h : i < l.length) : rd l (i : Int) = l[i] := by simp [rd, h]
theorem rdOf_get {α : Type} {z : α} {l : List α} {i : Nat} (h : i < l.length) : rdOf z l (i : Int) = l[i] := by simp [rdOf, h]
theorem wsucc {i n : Nat} (h : i < n) (hn : n ≤ 4611686018427387904) : wrap64 ((i : Int) + 1) = ((i + 1 : Nat) : Int) := by rw [w64 (by omega) (by omega)]; omega
/-! ### LockOk, of the program and of the reference -/
theorem kin_eq (a b c : Int) : impl_in.f a b c = some (decide (b ≤ a ∧ a ≤ c)) := by
  unfold impl_in.f
  by_cases h : a ≥ b <;> simp [h]
theorem ksin_eq (a b c : Int) : spec_l6In.f a b c = some (decide (b ≤ a ∧ a ≤ c)) := by
  unfold spec_l6In.f
  by_cases h : a ≥ b <;> simp [h]
def memFrom (gs : List Int) (x : Int) (i : Nat) : Nat → Bool
  | 0 => false
  | d + 1 => decide (rd gs (i : Int) = x) || memFrom gs x (i + 1) d
theorem l5_ok (gs : List Int) (x : Int) (hn : gs.length ≤ 4611686018427387904) (d : Nat) : ∀ (k i : Nat), i + d = gs.length → d < k → spec_l5In.l0 k gs x (i : Int) = some (memFrom gs x i d) := by
  induction d with
  | zero =>
    intro k i hi hk
    obtain ⟨k, rfl⟩ : ∃ m, k = m + 1 := ⟨k - 1, by omega⟩
    rw [spec_l5In.l0, if_neg (by omega)]; rfl
  | succ d ih =>
    intro k i hi hk
    obtain ⟨k, rfl⟩ : ∃ m, k = m + 1 := ⟨k - 1, by omega⟩
    rw [spec_l5In.l0, if_pos (by omega), if_pos (by omega), wsucc (show i < gs.length by omega) (by omega), ih k (i + 1) (by omega) (by omega)]
    show _ = some (decide (rd gs (i : Int) = x) || memFrom gs x (i + 1) d)
    by_cases c : rd gs (i : Int) = x <;> simp [c]
theorem ix_ok (gs : List Int) (x : Int) (hn : gs.length ≤ 4611686018427387904) (d : Nat) : ∀ (k i : Nat), i + d = gs.length → d < k → ∃ j, slices_Index_int_int.l0 k gs x (gs.length : Int) (i : Int) = some j ∧ decide (j ≥ 0) = memFrom gs x i d := by
  induction d with
  | zero =>
    intro k i hi hk
    obtain ⟨k, rfl⟩ : ∃ m, k = m + 1 := ⟨k - 1, by omega⟩
    rw [slices_Index_int_int.l0, if_neg (by omega)]; exact ⟨-1, rfl, rfl⟩
  | succ d ih =>
    intro k i hi hk
    obtain ⟨k, rfl⟩ : ∃ m, k = m + 1 := ⟨k - 1, by omega⟩
    obtain ⟨j, h1, h2⟩ := ih k (i + 1) (by omega) (by omega)
    rw [slices_Index_int_int.l0, if_pos (by omega), if_pos (by omega), if_pos (by omega), wsucc (show i < gs.length by omega) (by omega), h1]
    unfold memFrom
    by_cases c : rd gs (i : Int) = x
    · rw [if_pos c.symm]; exact ⟨i, rfl, by simp [c]⟩
    · rw [if_neg (fun h => c h.symm)]; exact ⟨j, rfl, by simp [c, h2]⟩
theorem has_ok (gs : List Int) (x : Int) (hn : gs.length ≤ 4611686018427387904) {k : Nat} (hk : gs.length < k) : slices_Contains_int_int.f k gs x = some (memFrom gs x 0 gs.length) := by
  obtain ⟨j, h1, h2⟩ := ix_ok gs x hn gs.length k 0 (by omega) hk
  unfold slices_Contains_int_int.f slices_Index_int_int.f
  rw [show (0 : Int) = ((0 : Nat) : Int) from rfl, h1, Option.bind_some]
  exact congrArg some h2
def lkBad (z : S60) : Bool := !decide (0 ≤ z.f0 ∧ z.f0 ≤ 6) || (!decide (0 ≤ z.f1 ∧ z.f1 ≤ 2) || ((decide (z.f1 ≠ 0) && decide (z.f0 ≠ 1)) || (!decide (0 ≤ z.f2 ∧ z.f2 ≤ 3) || ((decide (z.f0 > 0) && decide (z.f2 = 0)) || (z.f3 && decide (z.f0 ≠ 3))))))
def lkFrom (ts : List S60) (ln : List Int) (n : Int) (i : Nat) : Nat → Bool
  | 0 => decide (n = (ln.length : Int))
  | d + 1 => !(lkBad (rd_T60 ts (i : Int))) && (!((rd_T60 ts (i : Int)).f3 != memFrom ln (i : Int) 0 ln.length) && lkFrom ts ln (if (rd_T60 ts (i : Int)).f3 = true then n + 1 else n) (i + 1) d)
theorem lk_impl (w : Int) (ts : List S60) (ln : List Int) (hn : ts.length ≤ 1000000000) (hl : ln.length ≤ 1000000000) (d : Nat) : ∀ (k i : Nat) (n : Int), i + d = ts.length → 2 * d + ln.length + 2 < k → 0 ≤ n → n ≤ i → impl_LockOk.l0 k n ts (ts.length : Int) (i : Int) w ts ln = some (lkFrom ts ln n i d) := by
  induction d with
  | zero =>
    intro k i n hi hk h0 h1
    obtain ⟨k, rfl⟩ : ∃ m, k = m + 1 := ⟨k - 1, by omega⟩
    rw [impl_LockOk.l0, if_neg (by omega)]
    unfold lkFrom
    first | rfl | (congr 1)
  | succ d ih =>
    intro k i n hi hk h0 h1
    obtain ⟨k, rfl⟩ : ∃ m, k = m + 1 + 1 := ⟨k - 2, by omega⟩
    have q0 : (i : Int) < (ts.length : Int) := by omega
    have q1 : 0 ≤ (i : Int) := by omega
    have e1 := ih k (i + 1) (n + 1) (by omega) (by omega) (by omega) (by omega)
    have e2 := ih k (i + 1) n (by omega) (by omega) (by omega) (by omega)
    have hm := has_ok ln (i : Int) (by omega) (k := k) (by omega)
    have w' : wrap64 ((i : Int) + 1) = ((i + 1 : Nat) : Int) := wsucc (show i < ts.length by omega) (by omega)
    have w2 : wrap64 (n + 1) = n + 1 := w64 (by clear w'; omega) (by clear w'; omega)
    have j : ∀ b f0 f1 f2 f3, impl_LockOk.j2 (k + 1) n (i : Int) ts (ts.length : Int) (i : Int) b w ts ln f0 f1 f2 f3 = some (!b && (!(f3 != memFrom ln (i : Int) 0 ln.length) && lkFrom ts ln (if f3 = true then n + 1 else n) (i + 1) d)) := by
      intro b f0 f1 f2 f3
      rw [impl_LockOk.j2, hm, w', w2, e1, e2]
      simp only [Option.bind_some]
      generalize memFrom ln (i : Int) 0 ln.length = m
      cases b <;> cases f3 <;> cases m <;> rfl
    rw [impl_LockOk.l0, if_pos q0, if_pos q1, if_pos q0]
    clear w' w2 e1 e2 hm ih
    simp only [kin_eq, Option.bind_some, j, lkFrom, lkBad]
    generalize rd_T60 ts (i : Int) = z
    obtain ⟨f0, f1, f2, f3⟩ := z
    simp only
    generalize (!(f3 != memFrom ln (i : Int) 0 ln.length) && lkFrom ts ln (if f3 = true then n + 1 else n) (i + 1) d) = Z
    clear j
    by_cases c1 : 0 ≤ f0 ∧ f0 ≤ 6
    · by_cases c2 : 0 ≤ f1 ∧ f1 ≤ 2
      · rw [if_pos (decide_eq_true c1), if_pos (decide_eq_true c2), decide_eq_true c1, decide_eq_true c2]
        by_cases c3 : 0 ≤ f2 ∧ f2 ≤ 3
        · rw [if_pos (decide_eq_true c3)]
          rw [decide_eq_true c3]
          have b1 : decide (f1 ≠ 0) = decide (f1 > 0) := by rw [Bool.eq_iff_iff]; simp; omega
          rw [b1]
          by_cases d1 : f1 > 0 <;> by_cases d2 : f0 = 1 <;> by_cases d3 : f0 > 0 <;> by_cases d4 : f2 = 0 <;> by_cases d5 : f0 = 3 <;> cases f3 <;> simp [d1, d2, d3, d4, d5] <;> omega
        · rw [decide_eq_false c3]
          by_cases d1 : f1 > 0 <;> by_cases d2 : f0 = 1 <;> simp [d1, d2]
      · rw [if_pos (decide_eq_true c1), if_neg (by simpa using c2), decide_eq_false c2]; simp
    · rw [if_neg (by simpa using c1), decide_eq_false c1]; simp
theorem lk_spec (w : Int) (ts : List S60) (ln : List Int) (hn : ts.length ≤ 1000000000) (hl : ln.length ≤ 1000000000) (d : Nat) : ∀ (k i : Nat) (n : Int), i + d = ts.length → 2 * d + ln.length + 2 < k → 0 ≤ n → n ≤ i → spec_LockOk.l0 k n (i : Int) w ts ln = some (lkFrom ts ln n i d) := by
  induction d with
  | zero =>
    intro k i n hi hk h0 h1
    obtain ⟨k, rfl⟩ : ∃ m, k = m + 1 := ⟨k - 1, by omega⟩
    rw [spec_LockOk.l0, if_neg (by omega)]
    unfold lkFrom
    first | rfl | (congr 1)
  | succ d ih =>
    intro k i n hi hk h0 h1
    obtain ⟨k, rfl⟩ : ∃ m, k = m + 1 + 1 := ⟨k - 2, by omega⟩
    have q0 : (i : Int) < (ts.length : Int) := by omega
    have q1 : 0 ≤ (i : Int) := by omega
    have e1 := ih k (i + 1) (n + 1) (by omega) (by omega) (by omega) (by omega)
    have e2 := ih k (i + 1) n (by omega) (by omega) (by omega) (by omega)
    have hm : spec_l5In.f (k + 1) ln (i : Int) = some (memFrom ln (i : Int) 0 ln.length) := l5_ok ln (i : Int) (by omega) ln.length (k + 1) 0 (by omega) (by omega)
    have w' : wrap64 ((i : Int) + 1) = ((i + 1 : Nat) : Int) := wsucc (show i < ts.length by omega) (by omega)
    have w2 : wrap64 (n + 1) = n + 1 := w64 (by clear w'; omega) (by clear w'; omega)
    have j : ∀ b f0 f1 f2 f3, spec_LockOk.j2 (k + 1) n (i : Int) b w ts ln f0 f1 f2 f3 = some (!b && lkFrom ts ln (if f3 = true then n + 1 else n) (i + 1) d) := by
      intro b f0 f1 f2 f3
      rw [spec_LockOk.j2, w', w2, e1, e2]
      cases b <;> cases f3 <;> rfl
    rw [spec_LockOk.l0, if_pos q0, if_pos q1]
    clear w' w2 e1 e2 ih
    simp only [ksin_eq, Option.bind_some, hm, j, lkFrom, lkBad]
    generalize rd_T60 ts (i : Int) = z
    obtain ⟨f0, f1, f2, f3⟩ := z
    simp only
    generalize lkFrom ts ln (if f3 = true then n + 1 else n) (i + 1) d = Z
    generalize memFrom ln (i : Int) 0 ln.length = m
    clear j hm
    by_cases c1 : 0 ≤ f0 ∧ f0 ≤ 6
    · by_cases c2 : 0 ≤ f1 ∧ f1 ≤ 2
      · rw [if_pos (decide_eq_true c1), if_pos (decide_eq_true c2), decide_eq_true c1, decide_eq_true c2]
        by_cases c3 : 0 ≤ f2 ∧ f2 ≤ 3
        · rw [decide_eq_true c3]
          by_cases d1 : f1 = 0 <;> by_cases d2 : f0 = 1 <;> by_cases d3 : f0 > 0 <;> by_cases d4 : f2 = 0 <;> by_cases d5 : f0 = 3 <;> cases f3 <;> simp [d1, d2, d3, d4, d5] <;> omega
        · rw [decide_eq_false c3]
          by_cases d1 : f1 = 0 <;> by_cases d2 : f0 = 1 <;> simp [d1, d2]
      · rw [if_pos (decide_eq_true c1), if_neg (by simpa using c2), decide_eq_false c2]; simp
    · rw [if_neg (by simpa using c1), decide_eq_false c1]; simp
theorem lk_ok (w : Int) (ts : List S60) (ln : List Int) (hn : ts.length ≤ 1000000000) (hl : ln.length ≤ 1000000000) {k : Nat} (hk : 2 * ts.length + ln.length + 4 < k) : ∃ r, impl_LockOk.f k w ts ln = some r ∧ spec_LockOk.f k w ts ln = some r := by
  obtain ⟨k, rfl⟩ : ∃ m, k = m + 1 := ⟨k - 1, by omega⟩
  have e1 := lk_impl w ts ln hn hl ts.length k 0 0 (by omega) (by omega) (by omega) (by omega)
  have e2 := lk_spec w ts ln hn hl ts.length k 0 0 (by omega) (by omega) (by omega) (by omega)
  have j1 : ∀ b, impl_LockOk.j0 (k + 1) b w ts ln = some (!b && lkFrom ts ln 0 0 ts.length) := by
    intro b
    rw [impl_LockOk.j0]
    cases b with
    | true => rfl
    | false => rw [if_neg (by decide)]; simpa using e1
  have j2 : ∀ b, spec_LockOk.j0 (k + 1) b w ts ln = some (!b && lkFrom ts ln 0 0 ts.length) := by
    intro b
    rw [spec_LockOk.j0]
    cases b with
    | true => rfl
    | false => rw [if_neg (by decide)]; simpa using e2
  unfold impl_LockOk.f spec_LockOk.f
  simp only [kin_eq, ksin_eq, Option.bind_some, j1, j2]
  by_cases c : 0 ≤ w ∧ w ≤ 2 <;> simp [c]
/-! ### copies -/
def cv (x : S97) : S60 := ⟨x.f0, x.f1, x.f2, x.f3⟩
theorem rd97_get {l : List S97} {i : Nat} (h : i < l.length) : rd_T97 l (i : Int) = l[i] := by simp [rd_T97, h]
theorem toThreadS_ok (l : List S97) (hl : l.length ≤ 8796093022208) {k : Nat} (hk : l.length < k) : laws_toThreadS.f k l = some (l.map cv) := by
  unfold laws_toThreadS.f
  rw [if_pos (by omega), if_pos (by omega)]
  refine to_gen (l0 := fun k acc i => laws_toThreadS.l0 k l acc i) (l.map cv) 0 ?_ ?_ k _ (by simp) (by simp; omega)
  · intro k acc i hi _ ha
    have hi' : i < l.length := by simpa using hi
    have ha' : acc.length = l.length := by simpa using ha
    show laws_toThreadS.l0 (k + 1) l acc (i : Int) = _
    rw [laws_toThreadS.l0, if_pos (by omega), if_pos (by omega)]
    unfold laws_toThread.f
    rw [Option.bind_some, if_pos (by omega), wsucc hi' (by omega), Int.toNat_natCast, rd97_get hi', List.getElem_map]
    rfl
  · intro k acc
    show laws_toThreadS.l0 (k + 1) l acc ((l.map cv).length : Int) = _
    rw [laws_toThreadS.l0, if_neg (by simp)]
theorem toIntS_ok (l : List Int) (hl : l.length ≤ 17592186044416) {k : Nat} (hk : l.length < k) : laws_toIntS.f k l = some l := by
  unfold laws_toIntS.f
  rw [if_pos (by omega), if_pos (by omega)]
  refine to_gen (l0 := fun k acc i => laws_toIntS.l0 k l acc i) l 0 ?_ ?_ k _ (by simp) (by omega)
  · intro k acc i hi _ ha
    show laws_toIntS.l0 (k + 1) l acc (i : Int) = _
    rw [laws_toIntS.l0, if_pos (by omega), if_pos (by omega), if_pos (by omega), wsucc hi (by omega), rd_get hi, Int.toNat_natCast]
  · intro k acc
    show laws_toIntS.l0 (k + 1) l acc (l.length : Int) = _
    rw [laws_toIntS.l0, if_neg (by omega)]
theorem eqIntS_ok (l : List Int) (hl : l.length ≤ 17592186044416) {k : Nat} (hk : l.length < k) : laws_eqIntS.f k l l = some true := by
  unfold laws_eqIntS.f
  rw [if_pos rfl]
  refine eq_gen (l0 := fun k i => laws_eqIntS.l0 k l l i) l.length 0 ?_ ?_ k (by omega)
  · intro k i hi _
    show laws_eqIntS.l0 (k + 1) l l (i : Int) = _
    rw [laws_eqIntS.l0, if_pos (by omega), if_pos (by omega), if_pos (by omega), wsucc hi (by omega)]
    simp
  · intro k
    show laws_eqIntS.l0 (k + 1) l l (l.length : Int) = _
    rw [laws_eqIntS.l0, if_neg (by omega)]
theorem eqThread_ok (a b c : Int) (d : Bool) : laws_eqThread.f a b c d a b c d = some true := by
  unfold laws_eqThread.f
  rw [if_pos rfl, if_pos rfl, if_pos rfl, if_neg (by simp)]
theorem eqThreadS_ok (l : List S60) (hl : l.length ≤ 8796093022208) {k : Nat} (hk : l.length < k) : laws_eqThreadS.f k l l = some true := by
  unfold laws_eqThreadS.f
  rw [if_pos rfl]
  refine eq_gen (l0 := fun k i => laws_eqThreadS.l0 k l l i) l.length 0 ?_ ?_ k (by omega)
  · intro k i hi _
    show laws_eqThreadS.l0 (k + 1) l l (i : Int) = _
    rw [laws_eqThreadS.l0, if_pos (by omega), if_pos (by omega), if_pos (by omega), eqThread_ok, Option.bind_some, if_pos rfl, wsucc hi (by omega)]
  · intro k
    show laws_eqThreadS.l0 (k + 1) l l (l.length : Int) = _
    rw [laws_eqThreadS.l0, if_neg (by omega)]
theorem toLock_ok (w : Int) (l : List S97) (ln : List Int) (hl : l.length ≤ 8796093022208) (h2 : ln.length ≤ 8796093022208) {k : Nat} (hk : l.length < k) (hk2 : ln.length < k) : laws_toLock.f k w l ln = some (w, l.map cv, ln) := by
  unfold laws_toLock.f
  rw [toThreadS_ok l hl hk, Option.bind_some, toIntS_ok ln (by omega) hk2, Option.bind_some]
theorem eqLock_ok (w : Int) (l : List S60) (ln : List Int) (hl : l.length ≤ 8796093022208) (h2 : ln.length ≤ 8796093022208) {k : Nat} (hk : l.length < k) (hk2 : ln.length < k) : laws_eqLock.f k w l ln w l ln = some true := by
  unfold laws_eqLock.f
  rw [if_pos rfl, eqThreadS_ok l hl hk, Option.bind_some, if_pos rfl, eqIntS_ok ln (by omega) hk2, Option.bind_some, if_pos rfl]
theorem szLock_le (w : Int) (l : List S97) (ln : List Int) (hl : l.length ≤ 140737488351232) (h2 : ln.length ≤ 140737488351232) : ∃ t, laws_szLock.f w l ln 1048576 = some t ∧ (0 ≤ t → l.length ≤ 1048576 ∧ ln.length ≤ 1048576) := by
  unfold laws_szLock.f laws_szThreadS.f laws_szIntS.f
  rw [w64 (n := (1048576 : Int) - (l.length : Int)) (by omega) (by omega)]
  by_cases c : (1048576 : Int) - (l.length : Int) < 0
  · rw [if_pos c, Option.bind_some, if_pos (by omega)]
    exact ⟨_, rfl, fun h => by omega⟩
  · rw [if_neg c, Option.bind_some, if_neg c, w64 (n := (1048576 : Int) - (l.length : Int) - (ln.length : Int)) (by omega) (by omega)]
    by_cases c2 : (1048576 : Int) - (l.length : Int) - (ln.length : Int) < 0
    · rw [if_pos c2, Option.bind_some, if_pos (by omega)]
      exact ⟨_, rfl, fun h => by omega⟩
    · rw [if_neg c2, Option.bind_some, if_neg c2]
      exact ⟨_, rfl, fun h => by omega⟩

theorem FnExactLockOk : BdFnExactLockOk.Pure := by
  intro w l ln ⟨_, ⟨hl, _⟩, hln, _⟩
  obtain ⟨t, ht, g1⟩ := szLock_le w l ln (by omega) (by omega)
  obtain ⟨K, hK⟩ : ∃ K : Nat, 8000000 ≤ K := ⟨8000000, Nat.le_refl _⟩
  refine ⟨K, ?_⟩
  unfold laws_FnExactLockOk.f
  rw [ht, Option.bind_some]
  by_cases c : t < 0
  · rw [if_pos c]
  · rw [if_neg c]
    obtain ⟨g1, g2⟩ := g1 (by omega)
    have hm : (l.map cv).length = l.length := by simp
    rw [toLock_ok w l ln (by omega) (by omega) (by omega) (by omega)]
    simp only [Option.bind_some]
    obtain ⟨r, h1, h2⟩ := lk_ok w (l.map cv) ln (by omega) (by omega) (k := K) (by omega)
    rw [h1, h2, eqLock_ok w (l.map cv) ln (by omega) (by omega) (by omega) (by omega)]
    simp

end Go.Proofs.Ytecniihieninjaa.Pure
