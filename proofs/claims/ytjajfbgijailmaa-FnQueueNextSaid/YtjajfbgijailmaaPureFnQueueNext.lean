/- QueueNext of the program and of the reference answer alike at every drawn queue, and the task that is told is a cheapest ready one. -/
import Derived.Test.YtjajfbgijailmaaBdFnQueueNext
import Derived.WideShapes
import Derived.IntWalk
import Derived.OpenShut
namespace Go.Proofs.Ytjajfbgijailmaa.Pure
open Go.RowKit Go.Proofs.Ytjajfbgijailmaa.XFnQueueNext Go.Proofs.YtjajfbgijailmaaW.PrintWords Go.Proofs.YtjajfbgijailmaaW.PrintLast
/-! ### small facts on numbers, bytes and rounds -/
theorem w64 {n : Int} (h1 : -9223372036854775808 ≤ n) (h2 : n ≤ 9223372036854775807) : wrap64 n = n := by unfold wrap64; omega
theorem w64_range (n : Int) : -9223372036854775808 ≤ wrap64 n ∧ wrap64 n ≤ 9223372036854775807 := by unfold wrap64; omega
theorem xor_ok {x y : Int} (hx : 0 ≤ x) (hx2 : x < 4611686018427387904) (hy : 0 ≤ y) (hy2 : y < 4611686018427387904) : 0 ≤ Go.bits .xor .i64 x y ∧ Go.bits .xor .i64 x y < 4611686018427387904 := by
  have h1 : (BitVec.ofInt 64 x ^^^ BitVec.ofInt 64 y).toNat < 2 ^ 62 := by
    rw [BitVec.toNat_xor]
    apply Nat.xor_lt_two_pow
    · rw [BitVec.toNat_ofInt]; omega
    · rw [BitVec.toNat_ofInt]; omega
  have h2 : Go.bits .xor .i64 x y = ((BitVec.ofInt 64 x ^^^ BitVec.ofInt 64 y).toNat : Int) := by
    show IntKind.wrap .i64 ((BitVec.ofInt 64 x ^^^ BitVec.ofInt 64 y).toNat : Int) = _
    generalize (BitVec.ofInt 64 x ^^^ BitVec.ofInt 64 y).toNat = m at h1
    exact IntWalk.i64_in _ (by omega)
  rw [h2]; omega
theorem tmod_ok {x n : Int} (hx : 0 ≤ x) (hn : 1 ≤ n) : 0 ≤ Int.tmod x n ∧ Int.tmod x n < n := by
  rw [Int.tmod_eq_emod_of_nonneg hx]
  exact ⟨Int.emod_nonneg _ (by omega), Int.emod_lt_of_pos _ (by omega)⟩
theorem tdiv_ok {x n : Int} (hx : 0 ≤ x) (hn : 1 ≤ n) : 0 ≤ Int.tdiv x n ∧ Int.tdiv x n ≤ x := by
  rw [Int.tdiv_eq_ediv_of_nonneg hx]
  exact ⟨Int.ediv_nonneg hx (by omega), Int.ediv_le_self _ hx⟩
theorem rd_mem {xs : List Int} {i : Int} (h0 : 0 ≤ i) (h1 : i < (xs.length : Int)) : rd xs i ∈ xs := by
  have hl : i.toNat < xs.length := by omega
  unfold rd
  rw [List.getD_eq_getElem?_getD, List.getElem?_eq_getElem hl]
  exact List.getElem_mem hl
def Bytes (s : List Int) : Prop := ∀ x ∈ s, 0 ≤ x ∧ x ≤ 255
theorem bytes_of_wf {s : List Int} (h : ∀ x ∈ s, (Lit.int .u8 x).wf = true) : Bytes s := fun x hx => Go.bounds_u8 (h x hx)
theorem bytes_rd {s : List Int} (h : Bytes s) {i : Int} (h0 : 0 ≤ i) (h1 : i < (s.length : Int)) : 0 ≤ rd s i ∧ rd s i ≤ 255 := h _ (rd_mem h0 h1)
theorem toList_inj {a b : ByteArray} : a.toList = b.toList ↔ a = b := by
  rw [ByteArray.toList_eq, ByteArray.toList_eq]
  constructor
  · intro h; exact Go.WideShapes.bytes_inj h
  · rintro rfl; rfl
theorem toList_nil {a : ByteArray} : a.toList = ([] : List UInt8) ↔ a.size = 0 := by
  rw [ByteArray.toList_eq, List.eq_nil_iff_length_eq_zero, data_length]
/-! ### the reader of a code: l6Open, pick -/
theorem open_ok {l0 : List Int} (hb : Bytes l0) : ∃ s, spec_l6Open.f l0 = some (s, 0) ∧ Bytes s ∧ s.length ≤ 2000 := by
  unfold spec_l6Open.f
  by_cases h : (l0.length : Int) > 2000
  · rw [if_pos h, if_pos (by omega)]
    exact ⟨_, rfl, fun x hx => hb x (List.mem_of_mem_take hx), by rw [List.length_take]; omega⟩
  · rw [if_neg h]
    exact ⟨_, rfl, hb, by omega⟩
theorem pick_ok {s : List Int} (hb : Bytes s) (hs : s.length ≤ 2000) {p : Int} (hp0 : 0 ≤ p) (hp1 : p ≤ 1000000000) (n : Int) {k : Nat} (hk : 1 ≤ k) :
    ∃ v, spec_l6Rd_pick.f k s p n = some (v, p + 1) ∧ 0 ≤ v ∧ (1 ≤ n → v < n) ∧ (n < 1 → v = 0) := by
  obtain ⟨k, rfl⟩ : ∃ m, k = m + 1 := ⟨k - 1, by omega⟩
  have e1 : wrap64 (p + 1) = p + 1 := w64 (by omega) (by omega)
  have e2 : wrap64 (p + 1 - 1) = p := by rw [show p + 1 - 1 = p by omega]; exact w64 (by omega) (by omega)
  unfold spec_l6Rd_pick.f
  by_cases hn : n < 1
  · rw [if_pos hn]; simp only [spec_l6Rd_pick.j0, if_true, e1]
    exact ⟨0, rfl, by omega, by omega, fun _ => rfl⟩
  · rw [if_neg hn]; simp only [spec_l6Rd_pick.j0, e1, e2]
    by_cases h0 : (s.length : Int) = 0
    · have : ((s.length : Int) == 0) = true := by simp [h0]
      rw [this, if_pos rfl]
      exact ⟨0, rfl, by omega, by omega, fun _ => rfl⟩
    · have : ((s.length : Int) == 0) = false := by simpa using h0
      rw [this, if_neg (by decide)]
      by_cases hl : p < (s.length : Int)
      · rw [if_pos hl, if_pos hp0, if_neg (by omega)]
        have hr := bytes_rd hb hp0 hl
        rw [w64 (n := rd s p) (by omega) (by omega)]
        have ht := tmod_ok hr.1 (show 1 ≤ n by omega)
        exact ⟨_, rfl, ht.1, fun _ => ht.2, by omega⟩
      · rw [if_neg hl, if_neg h0]
        have a1 := tmod_ok (x := p) (n := (s.length : Int)) hp0 (by omega)
        rw [if_pos a1.1, if_pos a1.2]
        have e3 : wrap64 (p * 7) = p * 7 := w64 (by omega) (by omega)
        have e4 : wrap64 (p * 7 + 3) = p * 7 + 3 := w64 (by omega) (by omega)
        simp only [e3, e4]
        have a2 := tmod_ok (x := p * 7 + 3) (n := (s.length : Int)) (by omega) (by omega)
        rw [if_pos a2.1, if_pos a2.2, if_neg (by omega)]
        have b1 := bytes_rd hb a1.1 a1.2
        have b2 := bytes_rd hb a2.1 a2.2
        have a3 := tdiv_ok (x := p) (n := (s.length : Int)) hp0 (by omega)
        generalize rd s (p.tmod (s.length : Int)) = x1 at b1 ⊢
        generalize rd s ((p * 7 + 3).tmod (s.length : Int)) = x2 at b2 ⊢
        generalize p.tdiv (s.length : Int) = x3 at a3 ⊢
        have c1 : wrap64 x1 = x1 := w64 (by omega) (by omega)
        have c2 : wrap64 x2 = x2 := w64 (by omega) (by omega)
        have c3 : wrap64 x3 = x3 := w64 (by omega) (by omega)
        have c4 : wrap64 (x1 * 131) = x1 * 131 := w64 (by omega) (by omega)
        have c5 : wrap64 (x2 * 1117) = x2 * 1117 := w64 (by omega) (by omega)
        have c6 : wrap64 (x1 * 131 + x2 * 1117) = x1 * 131 + x2 * 1117 := w64 (by omega) (by omega)
        have c7 : wrap64 (p * 29) = p * 29 := w64 (by omega) (by omega)
        have c8 : wrap64 (x1 * 131 + x2 * 1117 + p * 29) = x1 * 131 + x2 * 1117 + p * 29 := w64 (by omega) (by omega)
        have c9 : wrap64 (x3 * 53) = x3 * 53 := w64 (by omega) (by omega)
        have c10 : wrap64 (x1 * 131 + x2 * 1117 + p * 29 + x3 * 53) = x1 * 131 + x2 * 1117 + p * 29 + x3 * 53 := w64 (by omega) (by omega)
        simp only [c1, c2, c3, c4, c5, c6, c7, c8, c9, c10]
        have a4 := tdiv_ok (x := x1 * 131 + x2 * 1117 + p * 29 + x3 * 53) (n := 64) (by omega) (by omega)
        have c11 : wrap64 ((x1 * 131 + x2 * 1117 + p * 29 + x3 * 53).tdiv 64) = (x1 * 131 + x2 * 1117 + p * 29 + x3 * 53).tdiv 64 := w64 (by omega) (by omega)
        rw [c11]
        have a5 := xor_ok (x := x1 * 131 + x2 * 1117 + p * 29 + x3 * 53) (y := (x1 * 131 + x2 * 1117 + p * 29 + x3 * 53).tdiv 64) (by omega) (by omega) a4.1 (by omega)
        have a6 := tmod_ok a5.1 (show 1 ≤ n by omega)
        exact ⟨_, rfl, a6.1, fun _ => a6.2, by omega⟩
/-! ### rows that are copied, and rows that are held against themselves -/
theorem to_gen {β : Type} {l0 : Nat → List β → Int → Option (List β)} (xs : List β) (K : Nat)
    (hstep : ∀ (k : Nat) (acc : List β) (i : Nat) (hi : i < xs.length), K ≤ k → acc.length = xs.length → l0 (k + 1) acc (i : Int) = l0 k (acc.set i (xs[i]'hi)) ((i + 1 : Nat) : Int))
    (hend : ∀ (k : Nat) (acc : List β), l0 (k + 1) acc (xs.length : Int) = some acc) :
    ∀ (k : Nat) (acc : List β), acc.length = xs.length → xs.length + K < k → l0 k acc 0 = some xs := by
  have key : ∀ (d : Nat) (k : Nat) (acc : List β) (i : Nat), i + d = xs.length → d + K < k → acc.length = xs.length → (∀ j, j < i → acc[j]? = xs[j]?) → l0 k acc (i : Int) = some xs := by
    intro d
    induction d with
    | zero =>
      intro k acc i hd hk hl hj
      obtain ⟨k, rfl⟩ : ∃ m, k = m + 1 := ⟨k - 1, by omega⟩
      obtain rfl : i = xs.length := by omega
      rw [hend]
      congr 1
      apply List.ext_getElem?
      intro j
      by_cases h : j < xs.length
      · exact hj j h
      · rw [List.getElem?_eq_none (by omega), List.getElem?_eq_none (by omega)]
    | succ d ih =>
      intro k acc i hd hk hl hj
      obtain ⟨k, rfl⟩ : ∃ m, k = m + 1 := ⟨k - 1, by omega⟩
      have hi : i < xs.length := by omega
      rw [hstep k acc i hi (by omega) hl]
      refine ih k _ (i + 1) (by omega) (by omega) (by rw [List.length_set]; exact hl) (fun j hjl => ?_)
      by_cases e : j = i
      · subst e
        rw [List.getElem?_set_self (by omega), List.getElem?_eq_getElem hi]
      · rw [List.getElem?_set_ne (by omega)]
        exact hj j (by omega)
  intro k acc hl hk
  exact key xs.length k acc 0 (by omega) (by omega) hl (fun j hj => absurd hj (Nat.not_lt_zero j))
theorem eq_gen {l0 : Nat → Int → Option Bool} (n : Nat) (K : Nat)
    (hstep : ∀ (k : Nat) (i : Nat), i < n → K ≤ k → l0 (k + 1) (i : Int) = l0 k ((i + 1 : Nat) : Int)) (hend : ∀ (k : Nat), l0 (k + 1) (n : Int) = some true) :
    ∀ (k : Nat), n + K < k → l0 k 0 = some true := by
  have key : ∀ (d : Nat) (k : Nat) (i : Nat), i + d = n → d + K < k → l0 k (i : Int) = some true := by
    intro d
    induction d with
    | zero =>
      intro k i hd hk
      obtain ⟨k, rfl⟩ : ∃ m, k = m + 1 := ⟨k - 1, by omega⟩
      obtain rfl : i = n := by omega
      exact hend k
    | succ d ih =>
      intro k i hd hk
      obtain ⟨k, rfl⟩ : ∃ m, k = m + 1 := ⟨k - 1, by omega⟩
      rw [hstep k i (by omega) (by omega)]
      exact ih k (i + 1) (by omega) (by omega)
  intro k hk
  exact key n k 0 (by omega) (by omega)
theorem rd_get {l : List Int} {i : Nat} (h : i < l.length) : rd l (i : Int) = l[i] := by simp [rd, h]
theorem rdOf_get {α : Type} {z : α} {l : List α} {i : Nat} (h : i < l.length) : rdOf z l (i : Int) = l[i] := by simp [rdOf, h]
theorem wsucc {i n : Nat} (h : i < n) (hn : n ≤ 4611686018427387904) : wrap64 ((i : Int) + 1) = ((i + 1 : Nat) : Int) := by rw [w64 (by omega) (by omega)]; omega
/-! ### QueueOk, of the program and of the reference -/
theorem qin_eq (a b c : Int) : impl_in.f a b c = some (decide (b ≤ a ∧ a ≤ c)) := by
  unfold impl_in.f
  by_cases h : a ≥ b <;> simp [h]
theorem qsin_eq (a b c : Int) : spec_l6In.f a b c = some (decide (b ≤ a ∧ a ≤ c)) := by
  unfold spec_l6In.f
  by_cases h : a ≥ b <;> simp [h]
def tkStep (ts : List S37) (fl : Int) (i : Nat) : Bool := decide (0 ≤ (rd_T37 ts (i : Int)).f0 ∧ (rd_T37 ts (i : Int)).f0 ≤ 99) && (decide (1 ≤ (rd_T37 ts (i : Int)).f1 ∧ (rd_T37 ts (i : Int)).f1 ≤ 6) && (decide (0 ≤ (rd_T37 ts (i : Int)).f2 ∧ (rd_T37 ts (i : Int)).f2 ≤ 1000000) && (!((rd_T37 ts (i : Int)).f3 && decide ((rd_T37 ts (i : Int)).f2 < fl)) && (decide (i = 0) || !decide ((rd_T37 ts ((i : Int) - 1)).f0 ≥ (rd_T37 ts (i : Int)).f0)))))
def tkFrom (ts : List S37) (fl : Int) (i : Nat) : Nat → Bool
  | 0 => decide (ts.length ≤ 6) && decide (0 ≤ fl ∧ fl ≤ 1000000)
  | d + 1 => tkStep ts fl i && tkFrom ts fl (i + 1) d
def qFine (ts : List S37) (fl : Int) : Bool := tkFrom ts fl 0 ts.length
theorem q_spec (ts : List S37) (fl : Int) (hn : ts.length ≤ 4611686018427387904) (d : Nat) : ∀ (k i : Nat), i + d = ts.length → 2 * d + 1 < k → spec_QueueOk.l0 k (i : Int) ts fl = some (tkFrom ts fl i d) := by
  induction d with
  | zero =>
    intro k i hi hk
    obtain ⟨k, rfl⟩ : ∃ m, k = m + 1 := ⟨k - 1, by omega⟩
    rw [spec_QueueOk.l0, if_neg (by omega), qsin_eq]
    simp only [Option.bind_some, tkFrom]
    by_cases c : ts.length ≤ 6
    · rw [if_pos (by omega)]; simp [c]
    · rw [if_neg (by omega)]; simp [c]
  | succ d ih =>
    intro k i hi hk
    obtain ⟨k, rfl⟩ : ∃ m, k = m + 1 + 1 := ⟨k - 2, by omega⟩
    have q0 : (i : Int) < (ts.length : Int) := by omega
    have q1 : 0 ≤ (i : Int) := by omega
    have w : wrap64 ((i : Int) + 1) = ((i + 1 : Nat) : Int) := wsucc (show i < ts.length by omega) (by omega)
    have w' : wrap64 ((i : Int) - 1) = (i : Int) - 1 := w64 (by clear w; omega) (by clear w; omega)
    have j : ∀ b, spec_QueueOk.j1 (k + 1) (i : Int) b ts fl = some (!b && tkFrom ts fl (i + 1) d) := by
      intro b
      rw [spec_QueueOk.j1]
      cases b with
      | true => rfl
      | false => rw [if_neg (by decide), w, ih k (i + 1) (by clear w w'; omega) (by clear w w'; omega)]; rfl
    rw [spec_QueueOk.l0, if_pos q0, if_pos q1, w']
    clear w w'
    simp only [qsin_eq, Option.bind_some, j, tkFrom, tkStep]
    generalize tkFrom ts fl (i + 1) d = z
    generalize (rd_T37 ts (i : Int)).f0 = f0
    generalize (rd_T37 ts (i : Int)).f1 = f1
    generalize (rd_T37 ts (i : Int)).f2 = f2
    generalize (rd_T37 ts (i : Int)).f3 = f3
    generalize (rd_T37 ts ((i : Int) - 1)).f0 = g0
    by_cases c1 : 0 ≤ f0 ∧ f0 ≤ 99
    · by_cases c2 : 1 ≤ f1 ∧ f1 ≤ 6
      · by_cases c3 : 0 ≤ f2 ∧ f2 ≤ 1000000
        · rw [if_pos (decide_eq_true c1), if_pos (decide_eq_true c2), if_pos (decide_eq_true c3)]
          by_cases ci : i = 0
          · rw [if_neg (by omega)]
            cases f3 <;> simp [c1, c2, c3, ci]
          · rw [if_pos (by omega), if_pos (by omega), if_pos (by omega)]
            cases f3 <;> by_cases c5 : g0 ≥ f0 <;> simp [c1, c2, c3, ci, c5]
        · simp [c1, c2, c3]
      · simp [c1, c2]
    · simp [c1]
theorem q_impl (ts : List S37) (fl : Int) (hn : ts.length ≤ 4611686018427387904) (d : Nat) : ∀ (k i : Nat), i + d = ts.length → 2 * d + 1 < k → impl_QueueOk.l0 k ts (ts.length : Int) (i : Int) ts fl = some (tkFrom ts fl i d) := by
  induction d with
  | zero =>
    intro k i hi hk
    obtain ⟨k, rfl⟩ : ∃ m, k = m + 1 := ⟨k - 1, by omega⟩
    rw [impl_QueueOk.l0, if_neg (by omega), qin_eq]
    simp only [Option.bind_some, tkFrom]
    by_cases c : ts.length ≤ 6
    · rw [if_pos (by omega)]; simp [c]
    · rw [if_neg (by omega)]; simp [c]
  | succ d ih =>
    intro k i hi hk
    obtain ⟨k, rfl⟩ : ∃ m, k = m + 1 + 1 := ⟨k - 2, by omega⟩
    have q0 : (i : Int) < (ts.length : Int) := by omega
    have q1 : 0 ≤ (i : Int) := by omega
    have w : wrap64 ((i : Int) + 1) = ((i + 1 : Nat) : Int) := wsucc (show i < ts.length by omega) (by omega)
    have w' : wrap64 ((i : Int) - 1) = (i : Int) - 1 := w64 (by clear w; omega) (by clear w; omega)
    have j : ∀ b, impl_QueueOk.j1 (k + 1) ts (ts.length : Int) (i : Int) b ts fl = some (!b && tkFrom ts fl (i + 1) d) := by
      intro b
      rw [impl_QueueOk.j1]
      cases b with
      | true => rfl
      | false => rw [if_neg (by decide), w, ih k (i + 1) (by clear w w'; omega) (by clear w w'; omega)]; rfl
    rw [impl_QueueOk.l0, if_pos q0, if_pos q1, if_pos q0, w']
    clear w w'
    simp only [qin_eq, Option.bind_some, j, tkFrom, tkStep]
    generalize tkFrom ts fl (i + 1) d = z
    generalize (rd_T37 ts (i : Int)).f0 = f0
    generalize (rd_T37 ts (i : Int)).f1 = f1
    generalize (rd_T37 ts (i : Int)).f2 = f2
    generalize (rd_T37 ts (i : Int)).f3 = f3
    generalize (rd_T37 ts ((i : Int) - 1)).f0 = g0
    by_cases c1 : 0 ≤ f0 ∧ f0 ≤ 99
    · by_cases c2 : 1 ≤ f1 ∧ f1 ≤ 6
      · by_cases c3 : 0 ≤ f2 ∧ f2 ≤ 1000000
        · rw [if_pos (decide_eq_true c1), if_pos (decide_eq_true c2), if_pos (decide_eq_true c3)]
          by_cases ci : i = 0
          · cases f3 <;> by_cases c4 : f2 < fl <;> simp [c1, c2, c3, c4, ci]
          · have p0 : (i : Int) > 0 := by omega
            have p1 : 0 ≤ (i : Int) - 1 := by omega
            have p3 : 0 < i := by omega
            have p4 : 1 ≤ (i : Int) := by omega
            have p2 : (i : Int) - 1 < (ts.length : Int) := by omega
            cases f3 <;> by_cases c4 : f2 < fl <;> by_cases c5 : g0 ≥ f0 <;> simp [c1, c2, c3, c4, c5, ci, p2, p3, p4]
        · simp [c1, c2, c3]
      · simp [c1, c2]
    · simp [c1]
theorem qok_spec (ts : List S37) (fl : Int) (hn : ts.length ≤ 4611686018427387904) {k : Nat} (hk : 2 * ts.length + 1 < k) : spec_QueueOk.f k ts fl = some (qFine ts fl) := by
  have := q_spec ts fl hn ts.length k 0 (by omega) hk
  unfold spec_QueueOk.f qFine
  exact this
theorem qok_impl (ts : List S37) (fl : Int) (hn : ts.length ≤ 4611686018427387904) {k : Nat} (hk : 2 * ts.length + 1 < k) : impl_QueueOk.f k ts fl = some (qFine ts fl) := by
  have := q_impl ts fl hn ts.length k 0 (by omega) hk
  unfold impl_QueueOk.f qFine
  exact this
/-! ### QueueNext, of the program and of the reference -/
def nxPick (ts : List S37) (b : Int) (i : Nat) : Bool := (rd_T37 ts (i : Int)).f3 && (decide (b < 0) || decide ((rd_T37 ts (i : Int)).f2 < (rd_T37 ts b).f2))
def nxFrom (ts : List S37) (b : Int) (i : Nat) : Nat → Int
  | 0 => b
  | d + 1 => nxFrom ts (if nxPick ts b i = true then (i : Int) else b) (i + 1) d
theorem nxFrom_bound (ts : List S37) (d : Nat) : ∀ (b : Int) (i : Nat), -1 ≤ b → b < i → -1 ≤ nxFrom ts b i d ∧ nxFrom ts b i d < (i : Int) + d := by
  induction d with
  | zero => intro b i h1 h2; unfold nxFrom; omega
  | succ d ih =>
    intro b i h1 h2
    unfold nxFrom
    by_cases c : nxPick ts b i = true
    · rw [if_pos c]; have := ih (i : Int) (i + 1) (by omega) (by omega); omega
    · rw [if_neg c]; have := ih b (i + 1) (by omega) (by omega); omega
theorem nx_spec (ts : List S37) (fl : Int) (hn : ts.length ≤ 4611686018427387904) (d : Nat) : ∀ (k i : Nat) (b : Int), i + d = ts.length → 2 * d + 1 < k → -1 ≤ b → b < i → spec_l11Next.l0 k b (i : Int) ts fl = some (nxFrom ts b i d) := by
  induction d with
  | zero =>
    intro k i b hi hk hb hb2
    obtain ⟨k, rfl⟩ : ∃ m, k = m + 1 := ⟨k - 1, by omega⟩
    rw [spec_l11Next.l0, if_neg (by omega)]; rfl
  | succ d ih =>
    intro k i b hi hk hb hb2
    obtain ⟨k, rfl⟩ : ∃ m, k = m + 1 + 1 := ⟨k - 2, by omega⟩
    have q0 : (i : Int) < (ts.length : Int) := by omega
    have q1 : 0 ≤ (i : Int) := by omega
    have q2 : b < (ts.length : Int) := by omega
    have i1 := ih k (i + 1) (i : Int) (by omega) (by omega) (by omega) (by omega)
    have i2 := ih k (i + 1) b (by omega) (by omega) (by omega) (by omega)
    have w : wrap64 ((i : Int) + 1) = ((i + 1 : Nat) : Int) := wsucc (show i < ts.length by omega) (by omega)
    have j : ∀ p, spec_l11Next.j1 (k + 1) b (i : Int) p ts fl = some (nxFrom ts (if p = true then (i : Int) else b) (i + 1) d) := by
      intro p
      rw [spec_l11Next.j1, w]
      cases p with
      | true => rw [if_pos rfl, if_pos rfl, i1]
      | false => rw [if_neg (by decide), if_neg (by decide), i2]
    clear w
    rw [spec_l11Next.l0, if_pos q0, if_pos q1]
    simp only [j, nxFrom, nxPick]
    clear j i1 i2 ih
    by_cases c : b < 0
    · by_cases hf : (rd_T37 ts (i : Int)).f3 = true <;> simp [hf, c]
    · have c' : 0 ≤ b := by omega
      by_cases hf : (rd_T37 ts (i : Int)).f3 = true <;> simp [hf, c, c', q2]
theorem nx_impl (ts : List S37) (fl : Int) (hn : ts.length ≤ 4611686018427387904) (d : Nat) : ∀ (k i : Nat) (b : Int), i + d = ts.length → 2 * d + 1 < k → -1 ≤ b → b < i → impl_Queue_next.l0 k b ts (ts.length : Int) (i : Int) ts fl = some (nxFrom ts b i d) := by
  induction d with
  | zero =>
    intro k i b hi hk hb hb2
    obtain ⟨k, rfl⟩ : ∃ m, k = m + 1 := ⟨k - 1, by omega⟩
    rw [impl_Queue_next.l0, if_neg (by omega)]; rfl
  | succ d ih =>
    intro k i b hi hk hb hb2
    obtain ⟨k, rfl⟩ : ∃ m, k = m + 1 + 1 := ⟨k - 2, by omega⟩
    have q0 : (i : Int) < (ts.length : Int) := by omega
    have q1 : 0 ≤ (i : Int) := by omega
    have q2 : b < (ts.length : Int) := by omega
    have i1 := ih k (i + 1) (i : Int) (by omega) (by omega) (by omega) (by omega)
    have i2 := ih k (i + 1) b (by omega) (by omega) (by omega) (by omega)
    have w : wrap64 ((i : Int) + 1) = ((i + 1 : Nat) : Int) := wsucc (show i < ts.length by omega) (by omega)
    have j : ∀ p, impl_Queue_next.j1 (k + 1) b (i : Int) ts (ts.length : Int) (i : Int) p ts fl = some (nxFrom ts (if p = true then (i : Int) else b) (i + 1) d) := by
      intro p
      rw [impl_Queue_next.j1, w]
      cases p with
      | true => rw [if_pos rfl, if_pos rfl, i1]
      | false => rw [if_neg (by decide), if_neg (by decide), i2]
    clear w
    rw [impl_Queue_next.l0, if_pos q0, if_pos q1, if_pos q0]
    simp only [j, nxFrom, nxPick]
    clear j i1 i2 ih
    by_cases c : b < 0
    · by_cases hf : (rd_T37 ts (i : Int)).f3 = true <;> simp [hf, c]
    · have c' : 0 ≤ b := by omega
      by_cases hf : (rd_T37 ts (i : Int)).f3 = true <;> simp [hf, c, c', q2]
def qNext (ts : List S37) (fl : Int) : Int := if qFine ts fl = true then (if nxFrom ts (-1) 0 ts.length < 0 then -1 else (rd_T37 ts (nxFrom ts (-1) 0 ts.length)).f0) else -1
theorem qnext_spec (ts : List S37) (fl : Int) (hn : ts.length ≤ 4611686018427387904) {k : Nat} (hk : 2 * ts.length + 1 < k) : spec_QueueNext.f k ts fl = some (qNext ts fl) := by
  have h1 : spec_l11Next.l0 k (-1) 0 ts fl = some (nxFrom ts (-1) 0 ts.length) := nx_spec ts fl hn ts.length k 0 (-1) (by omega) hk (by omega) (by omega)
  have hb := nxFrom_bound ts ts.length (-1) 0 (by omega) (by omega)
  unfold spec_QueueNext.f spec_l11Next.f qNext
  rw [h1, Option.bind_some, qok_spec ts fl hn hk, Option.bind_some]
  by_cases c : qFine ts fl = true
  · rw [if_pos c, if_pos c]
    by_cases c2 : nxFrom ts (-1) 0 ts.length < 0
    · rw [if_pos (by omega), if_pos (by omega)]
    · rw [if_neg c2, if_pos (show 0 ≤ nxFrom ts (-1) 0 ts.length by omega), if_pos (show nxFrom ts (-1) 0 ts.length < (ts.length : Int) by omega), if_neg c2]
  · rw [if_neg c, if_neg c]
theorem qnext_impl (ts : List S37) (fl : Int) (hn : ts.length ≤ 4611686018427387904) {k : Nat} (hk : 2 * ts.length + 1 < k) : impl_QueueNext.f k ts fl = some (qNext ts fl) := by
  have h1 : impl_Queue_next.l0 k (-1) ts (ts.length : Int) 0 ts fl = some (nxFrom ts (-1) 0 ts.length) := nx_impl ts fl hn ts.length k 0 (-1) (by omega) hk (by omega) (by omega)
  have hb := nxFrom_bound ts ts.length (-1) 0 (by omega) (by omega)
  unfold impl_QueueNext.f impl_Queue_next.f qNext
  rw [h1, Option.bind_some, qok_impl ts fl hn hk, Option.bind_some]
  by_cases c : qFine ts fl = true
  · rw [if_pos c, if_pos c]
    by_cases c2 : nxFrom ts (-1) 0 ts.length < 0
    · rw [if_neg (show ¬ nxFrom ts (-1) 0 ts.length ≥ 0 by omega), if_pos c2]
    · rw [if_pos (show nxFrom ts (-1) 0 ts.length ≥ 0 by omega), if_pos (show 0 ≤ nxFrom ts (-1) 0 ts.length by omega), if_pos (show nxFrom ts (-1) 0 ts.length < (ts.length : Int) by omega), if_neg c2]
  · rw [if_neg c, if_neg c]
/-! ### the next task costs least; the numbers of a fine queue rise -/
theorem tkFrom_all (ts : List S37) (fl : Int) (d : Nat) : ∀ i : Nat, tkFrom ts fl i d = true → ∀ j, i ≤ j → j < i + d → tkStep ts fl j = true := by
  induction d with
  | zero => intro i _ j h1 h2; omega
  | succ d ih =>
    intro i h j h1 h2
    unfold tkFrom at h
    obtain ⟨a, b⟩ := Bool.and_eq_true_iff.1 h
    by_cases e : i = j
    · subst e; exact a
    · exact ih (i + 1) b j (by omega) (by omega)
theorem fine_step {ts : List S37} {fl : Int} (h : qFine ts fl = true) (j : Nat) (hj : j < ts.length) : 0 ≤ (rd_T37 ts (j : Int)).f0 ∧ 0 ≤ (rd_T37 ts (j : Int)).f2 ∧ (0 < j → (rd_T37 ts ((j : Int) - 1)).f0 < (rd_T37 ts (j : Int)).f0) := by
  have := tkFrom_all ts fl ts.length 0 h j (by omega) (by omega)
  unfold tkStep at this
  simp only [Bool.and_eq_true, decide_eq_true_eq, Bool.or_eq_true, Bool.not_eq_true', decide_eq_false_iff_not] at this
  obtain ⟨a, b, c, d, e⟩ := this
  refine ⟨a.1, c.1, fun hj0 => ?_⟩
  rcases e with e | e <;> omega
theorem fine_ids {ts : List S37} {fl : Int} (h : qFine ts fl = true) (d : Nat) : ∀ i : Nat, i + d + 1 < ts.length → (rd_T37 ts (i : Int)).f0 < (rd_T37 ts ((i + d + 1 : Nat) : Int)).f0 := by
  induction d with
  | zero =>
    intro i hi
    have := (fine_step h (i + 1) (by omega)).2.2 (by omega)
    rw [show ((i + 1 : Nat) : Int) - 1 = (i : Int) by omega] at this
    exact this
  | succ d ih =>
    intro i hi
    have h1 := ih i (by omega)
    have := (fine_step h (i + (d + 1) + 1) (by omega)).2.2 (by omega)
    rw [show ((i + (d + 1) + 1 : Nat) : Int) - 1 = ((i + d + 1 : Nat) : Int) by omega] at this
    omega
theorem fine_uniq {ts : List S37} {fl : Int} (h : qFine ts fl = true) {i j : Nat} (hi : i < ts.length) (hj : j < ts.length) (e : (rd_T37 ts (i : Int)).f0 = (rd_T37 ts (j : Int)).f0) : i = j := by
  rcases Nat.lt_trichotomy i j with c | c | c
  · have := fine_ids h (j - i - 1) i (by omega); rw [show i + (j - i - 1) + 1 = j by omega] at this; omega
  · exact c
  · have := fine_ids h (i - j - 1) j (by omega); rw [show j + (i - j - 1) + 1 = i by omega] at this; omega
theorem nx_min (ts : List S37) (d : Nat) : ∀ (b : Int) (i : Nat), (0 ≤ b → (rd_T37 ts (nxFrom ts b i d)).f2 ≤ (rd_T37 ts b).f2) ∧ ∀ j : Nat, i ≤ j → j < i + d → (rd_T37 ts (j : Int)).f3 = true → (rd_T37 ts (nxFrom ts b i d)).f2 ≤ (rd_T37 ts (j : Int)).f2 := by
  induction d with
  | zero => intro b i; exact ⟨fun _ => by unfold nxFrom; omega, fun j h1 h2 => by omega⟩
  | succ d ih =>
    intro b i
    unfold nxFrom
    by_cases c : nxPick ts b i = true
    · rw [if_pos c]
      obtain ⟨h1, h2⟩ := ih (i : Int) (i + 1)
      have h1 := h1 (by omega)
      unfold nxPick at c
      simp only [Bool.and_eq_true, Bool.or_eq_true, decide_eq_true_eq] at c
      refine ⟨fun hb => by omega, fun j a1 a2 a3 => ?_⟩
      by_cases e : i = j
      · subst e; exact h1
      · exact h2 j (by omega) (by omega) a3
    · rw [if_neg c]
      obtain ⟨h1, h2⟩ := ih b (i + 1)
      refine ⟨h1, fun j a1 a2 a3 => ?_⟩
      by_cases e : i = j
      · subst e
        unfold nxPick at c
        simp only [a3, Bool.true_and, Bool.or_eq_true, decide_eq_true_eq] at c
        have := h1 (by omega)
        omega
      · exact h2 j (by omega) (by omega) a3
/-! ### the drawn queue: at most a few tasks, each of weight 1 to 6 -/
theorem nxFrom_ready (ts : List S37) (d : Nat) : ∀ (b : Int) (i : Nat), 0 ≤ nxFrom ts b i d → nxFrom ts b i d = b ∨ (rd_T37 ts (nxFrom ts b i d)).f3 = true := by
  induction d with
  | zero => intro b i _; exact Or.inl rfl
  | succ d ih =>
    intro b i h
    unfold nxFrom at h ⊢
    by_cases c : nxPick ts b i = true
    · rw [if_pos c] at h ⊢
      rcases ih (i : Int) (i + 1) h with e | e
      · right
        rw [e]
        unfold nxPick at c
        simp only [Bool.and_eq_true] at c
        exact c.1
      · exact Or.inr e
    · rw [if_neg c] at h ⊢
      exact ih b (i + 1) h
theorem nxFrom_keeps (ts : List S37) (d : Nat) : ∀ (b : Int) (i : Nat), 0 ≤ b → 0 ≤ nxFrom ts b i d := by
  induction d with
  | zero => intro b i h; exact h
  | succ d ih =>
    intro b i h
    unfold nxFrom
    by_cases c : nxPick ts b i = true
    · rw [if_pos c]; exact ih _ _ (by omega)
    · rw [if_neg c]; exact ih _ _ h
theorem nxFrom_found (ts : List S37) (d : Nat) : ∀ (b : Int) (i j : Nat), i ≤ j → j < i + d → (rd_T37 ts (j : Int)).f3 = true → 0 ≤ nxFrom ts b i d := by
  induction d with
  | zero => intro b i j h1 h2; omega
  | succ d ih =>
    intro b i j h1 h2 h3
    unfold nxFrom
    by_cases e : i = j
    · subst e
      by_cases c : b < 0
      · have : nxPick ts b i = true := by unfold nxPick; simp [h3, c]
        rw [if_pos this]; exact nxFrom_keeps ts d _ _ (by omega)
      · split
        · exact nxFrom_keeps ts d _ _ (by omega)
        · exact nxFrom_keeps ts d _ _ (by omega)
    · exact ih _ _ j (by omega) (by omega) h3
def Heavy (ts : List S37) : Prop := ∀ z ∈ ts, z.f1 ≠ 0
theorem rd37_mem {ts : List S37} {i : Int} (h0 : 0 ≤ i) (h1 : i < (ts.length : Int)) : rd_T37 ts i ∈ ts := by
  have hl : i.toNat < ts.length := by omega
  unfold rd_T37
  rw [List.getD_eq_getElem?_getD, List.getElem?_eq_getElem hl]
  exact List.getElem_mem hl
theorem heavy_set {ts : List S37} (h : Heavy ts) (i : Nat) {z : S37} (hz : z.f1 ≠ 0) : Heavy (ts.set i z) := by
  intro x hx
  rcases List.mem_or_eq_of_mem_set hx with e | e
  · exact h x e
  · rw [e]; exact hz
theorem heavy_add {ts : List S37} (h : Heavy ts) {z : S37} (hz : z.f1 ≠ 0) : Heavy (ts ++ [z]) := by
  intro x hx
  rcases List.mem_append.1 hx with e | e
  · exact h x e
  · rw [List.mem_singleton.1 e]; exact hz
theorem rd37_set {ts : List S37} {i : Int} (h0 : 0 ≤ i) (h1 : i < (ts.length : Int)) (z : S37) : rd_T37 (ts.set i.toNat z) i = z := by
  have hl : i.toNat < ts.length := by omega
  unfold rd_T37
  rw [List.getD_eq_getElem?_getD, List.getElem?_set_self hl]; rfl
theorem at_ok (ts : List S37) (q a : Int) (hn : ts.length ≤ 1000) (d : Nat) : ∀ k i : Nat, i + d = ts.length → d < k → ∃ j, spec_l11At.l0 k a (i : Int) ts q = some j := by
  induction d with
  | zero =>
    intro k i hi hk
    obtain ⟨k, rfl⟩ : ∃ m, k = m + 1 := ⟨k - 1, by omega⟩
    rw [spec_l11At.l0, if_neg (by omega)]; exact ⟨_, rfl⟩
  | succ d ih =>
    intro k i hi hk
    obtain ⟨k, rfl⟩ : ∃ m, k = m + 1 := ⟨k - 1, by omega⟩
    obtain ⟨j, hj⟩ := ih k (i + 1) (by omega) (by omega)
    rw [spec_l11At.l0, if_pos (by omega), if_pos (by omega), wsucc (show i < 2000 by omega) (by omega), hj]
    split <;> exact ⟨_, rfl⟩
theorem add_ok (ts : List S37) (q a b c : Int) (e : Bool) (hn : ts.length ≤ 1000) (hW : Heavy ts) (hb : b ≠ 0) (d : Nat) : ∀ (k i : Nat) (acc : List S37) (f : Bool), i + d = ts.length → d < k → acc.length + (if f = true then 0 else 1) ≤ i + 1 → Heavy acc →
    ∃ ts', spec_l11Add.l0 k acc f (i : Int) ts q a b c e = some (ts', q) ∧ ts'.length ≤ ts.length + 1 ∧ Heavy ts' := by
  induction d with
  | zero =>
    intro k i acc f hi hk ha hA
    obtain ⟨k, rfl⟩ : ∃ m, k = m + 1 := ⟨k - 1, by omega⟩
    rw [spec_l11Add.l0, if_neg (by omega)]
    cases f with
    | true => rw [if_pos rfl] at ha ⊢; exact ⟨_, rfl, by omega, hA⟩
    | false =>
      rw [if_neg (by decide)] at ha ⊢
      rw [if_pos (by omega)]
      exact ⟨_, rfl, by rw [List.length_append]; simp; omega, heavy_add hA hb⟩
  | succ d ih =>
    intro k i acc f hi hk ha hA
    obtain ⟨k, rfl⟩ : ∃ m, k = m + 1 := ⟨k - 1, by omega⟩
    have q0 : (i : Int) < (ts.length : Int) := by omega
    have q1 : 0 ≤ (i : Int) := by omega
    have hz : (rd_T37 ts (i : Int)).f1 ≠ 0 := hW _ (rd37_mem q1 q0)
    rw [spec_l11Add.l0, if_pos q0, wsucc (show i < 2000 by omega) (by omega)]
    cases f with
    | true =>
      rw [if_pos rfl] at ha ⊢
      rw [if_pos q1, if_pos (by omega)]
      exact ih k (i + 1) _ true (by omega) (by omega) (by rw [List.length_append, if_pos rfl]; simp; omega) (heavy_add hA hz)
    | false =>
      rw [if_neg (by decide)] at ha ⊢
      rw [if_pos q1]
      by_cases g : (rd_T37 ts (i : Int)).f0 > a
      · rw [if_pos g, if_pos (by omega), Option.bind_some, if_pos (by rw [List.length_append]; simp; omega)]
        exact ih k (i + 1) _ true (by omega) (by omega) (by rw [List.length_append, List.length_append, if_pos rfl]; simp; omega) (heavy_add (heavy_add hA hb) hz)
      · rw [if_neg g, if_pos (by omega)]
        exact ih k (i + 1) _ false (by omega) (by omega) (by rw [List.length_append, if_neg (by decide)]; simp; omega) (heavy_add hA hz)
theorem next_eq (ts : List S37) (q : Int) (hn : ts.length ≤ 1000) {k : Nat} (hk : 2 * ts.length + 1 < k) : spec_l11Next.f k ts q = some (nxFrom ts (-1) 0 ts.length) := by
  unfold spec_l11Next.f
  exact nx_spec ts q (by omega) ts.length k 0 (-1) (by omega) hk (by omega) (by omega)
theorem tick_ok (ts : List S37) (q : Int) (hn : ts.length ≤ 1000) (hW : Heavy ts) {k : Nat} (hk : 2 * ts.length + 1 < k) : ∃ ts' q' v, spec_l11Tick.f k ts q = some (ts', q', v) ∧ ts'.length = ts.length ∧ Heavy ts' := by
  unfold spec_l11Tick.f
  rw [next_eq ts q hn hk, Option.bind_some]
  obtain ⟨b0, b1⟩ := nxFrom_bound ts ts.length (-1) 0 (by omega) (by omega)
  by_cases c : nxFrom ts (-1) 0 ts.length < 0
  · rw [if_pos c]; exact ⟨_, _, _, rfl, rfl, hW⟩
  · have c0 : 0 ≤ nxFrom ts (-1) 0 ts.length := by omega
    have c1 : nxFrom ts (-1) 0 ts.length < (ts.length : Int) := by omega
    have hr := (nxFrom_ready ts ts.length (-1) 0 c0).resolve_left (by omega)
    have hz := hW _ (rd37_mem c0 c1)
    rw [if_neg c, if_pos c0, if_pos c1, if_neg hz]
    generalize nxFrom ts (-1) 0 ts.length = n at c0 c1 hr hz
    split
    · exact ⟨_, _, _, rfl, rfl, hW⟩
    · rw [Option.bind_some]
      generalize hy : ts.set n.toNat (⟨(rd_T37 ts n).f0, (rd_T37 ts n).f1, wrap64 ((rd_T37 ts n).f2 + wrap64 (60 / (rd_T37 ts n).f1)), (rd_T37 ts n).f3⟩ : S37) = ys
      have hl : ys.length = ts.length := by rw [← hy, List.length_set]
      have hf : (rd_T37 ys n).f3 = true := by rw [← hy, rd37_set c0 c1]; exact hr
      have h0 := nxFrom_found ys ys.length (-1) 0 n.toNat (by omega) (by omega) (by rw [show ((n.toNat : Nat) : Int) = n by omega]; exact hf)
      obtain ⟨_, h1⟩ := nxFrom_bound ys ys.length (-1) 0 (by omega) (by omega)
      rw [next_eq ys q (by omega) (by omega), Option.bind_some, if_pos h0, if_pos (by omega)]
      exact ⟨_, _, _, rfl, hl, by rw [← hy]; exact heavy_set hW _ hz⟩
theorem wake_ok (ts : List S37) (q a : Int) (hW : Heavy ts) (h0 : 0 ≤ a) (h1 : a < (ts.length : Int)) : ∃ ts' q', spec_l11Wake.f ts q a = some (ts', q') ∧ ts'.length = ts.length ∧ Heavy ts' := by
  have hz := hW _ (rd37_mem h0 h1)
  unfold spec_l11Wake.f
  rw [if_pos h0, if_pos h1]
  split
  · exact ⟨_, _, rfl, rfl, hW⟩
  · rw [Option.bind_some, rd37_set h0 h1]
    exact ⟨_, _, rfl, by rw [List.length_set, List.length_set], by refine heavy_set (heavy_set hW _ ?_) _ ?_ <;> exact hz⟩
theorem ticks_ok (x4 : Int) (s : List Int) (p : Int) (e : Nat) : ∀ (k : Nat) (ts : List S37) (q : Int), e + 60 < k → e ≤ 100 → ts.length ≤ 20 → Heavy ts →
    ∃ ts' q', spec_l92Queue.l1 k x4 (e : Int) s p ts q = spec_l92Queue.l1 (k - e) x4 0 s p ts' q' ∧ ts'.length = ts.length ∧ Heavy ts' := by
  induction e with
  | zero => intro k ts q _ _ _ hW; exact ⟨ts, q, rfl, rfl, hW⟩
  | succ e ih =>
    intro k ts q hk he hl hW
    obtain ⟨k, rfl⟩ : ∃ m, k = m + 1 := ⟨k - 1, by omega⟩
    obtain ⟨ts1, q1, v, h1, h2, h3⟩ := tick_ok ts q (by omega) hW (k := k) (by omega)
    obtain ⟨ts2, q2, g1, g2, g3⟩ := ih k ts1 q1 (by omega) (by omega) (by omega) h3
    refine ⟨ts2, q2, ?_, by omega, g3⟩
    have w : wrap64 (((e + 1 : Nat) : Int) - 1) = (e : Int) := by rw [w64 (by omega) (by omega)]; omega
    rw [spec_l92Queue.l1, if_pos (by clear w; omega), h1, Option.bind_some, w, g1, show k + 1 - (e + 1) = k - e by omega]
theorem rest_ok {s : List Int} (hb : Bytes s) (hs : s.length ≤ 2000) (d : Nat) (k : Nat) (p : Int) (ts : List S37) (q : Int) (hk : 80 ≤ k) (hl : ts.length ≤ 20) (hW : Heavy ts) (hp0 : 0 ≤ p) (hp1 : p ≤ 900000000) (hd : d ≤ 100) :
    ∃ ts' q' p', spec_l92Queue.l1 (k + 2) ((d + 1 : Nat) : Int) 0 s p ts q = spec_l92Queue.l0 k (d : Int) s p' ts' q' ∧ ts'.length = ts.length ∧ Heavy ts' ∧ p ≤ p' ∧ p' ≤ p + 3 := by
  have w : wrap64 (((d + 1 : Nat) : Int) - 1) = (d : Int) := by rw [w64 (by omega) (by omega)]; omega
  have skip : ∀ p' ts' q', spec_l92Queue.j3 (k + 1) ((d + 1 : Nat) : Int) false s p' ts' q' = spec_l92Queue.l0 k (d : Int) s p' ts' q' := by
    intro p' ts' q'
    rw [spec_l92Queue.j3, if_neg (by decide), w]
  rw [spec_l92Queue.l1, if_neg (by clear w; omega)]
  by_cases c : (ts.length : Int) > 0
  · obtain ⟨x, hx, _⟩ := pick_ok hb hs (p := p) hp0 (by clear w; omega) 3 (k := k + 1) (by clear w; omega)
    rw [if_pos c, hx, Option.bind_some]
    cases hx0 : (x == 0) with
    | false => exact ⟨ts, q, p + 1, skip _ _ _, rfl, hW, by clear w; omega, by clear w; omega⟩
    | true =>
      obtain ⟨a, ha, a0, a1, _⟩ := pick_ok hb hs (p := p + 1) (by clear w; omega) (by clear w; omega) (ts.length : Int) (k := k) (by clear w; omega)
      have a1 := a1 (by clear w; omega)
      obtain ⟨y, hy, _⟩ := pick_ok hb hs (p := p + 1 + 1) (by clear w; omega) (by clear w; omega) 2 (k := k) (by clear w; omega)
      have hz := hW _ (rd37_mem a0 a1)
      simp only
      rw [spec_l92Queue.j3, if_pos rfl, ha, Option.bind_some]
      simp only
      rw [if_pos a0, if_pos a1, Option.bind_some, hy, Option.bind_some]
      simp only
      generalize hv : ts.set a.toNat (⟨(rd_T37 ts a).f0, (rd_T37 ts a).f1, (rd_T37 ts a).f2, false⟩ : S37) = ys
      have hyl : ys.length = ts.length := by rw [← hv, List.length_set]
      have hyW : Heavy ys := by rw [← hv]; exact heavy_set hW _ hz
      by_cases y0 : y = 0
      · obtain ⟨zs, q2, g1, g2, g3⟩ := wake_ok ys q a hyW a0 (by clear w; omega)
        rw [if_pos y0, g1, Option.bind_some, w]
        exact ⟨zs, q2, p + 1 + 1 + 1, rfl, by clear w; omega, g3, by clear w; omega, by clear w; omega⟩
      · rw [if_neg y0, w]
        exact ⟨ys, q, p + 1 + 1 + 1, rfl, hyl, hyW, by clear w; omega, by clear w; omega⟩
  · rw [if_neg c]
    exact ⟨ts, q, p, skip _ _ _, rfl, hW, by clear w; omega, by clear w; omega⟩
theorem end_ok {s : List Int} (hb : Bytes s) (hs : s.length ≤ 2000) (k : Nat) (p : Int) (ts : List S37) (q : Int) (hk : 80 ≤ k) (hl : ts.length ≤ 20) (hp0 : 0 ≤ p) (hp1 : p ≤ 900000000) :
    ∃ ts' q' p', spec_l92Queue.l0 (k + 1) 0 s p ts q = some (ts', q', p') ∧ ts'.length ≤ 21 := by
  obtain ⟨x, hx, _⟩ := pick_ok hb hs (p := p) hp0 (by omega) 24 (k := k) (by omega)
  rw [spec_l92Queue.l0, if_neg (by omega), hx, Option.bind_some]
  simp only
  by_cases c0 : x = 0
  · obtain ⟨y, hy, y0, y1, _⟩ := pick_ok hb hs (p := p + 1) (by omega) (by omega) 4 (k := k) (by omega)
    have y1 := y1 (by omega)
    rw [if_pos c0, Option.bind_some, hy, Option.bind_some]
    simp only
    rw [if_pos y0, if_pos (by simpa using y1)]
    exact ⟨_, _, _, rfl, by omega⟩
  · rw [if_neg c0]
    by_cases c1 : x = 1
    · obtain ⟨a, ha, _⟩ := pick_ok hb hs (p := p + 1) (by omega) (by omega) 101 (k := k) (by omega)
      obtain ⟨b, hb', _⟩ := pick_ok hb hs (p := p + 1 + 1) (by omega) (by omega) 8 (k := k) (by omega)
      obtain ⟨y, hy, y0, y1, _⟩ := pick_ok hb hs (p := p + 1 + 1 + 1) (by omega) (by omega) 3 (k := k) (by omega)
      have y1 := y1 (by omega)
      rw [if_pos c1, ha, Option.bind_some]
      simp only
      rw [hb', Option.bind_some, Option.bind_some]
      simp only
      rw [hy, Option.bind_some]
      simp only
      rw [if_pos y0, if_pos (by simpa using y1), if_pos (by omega)]
      exact ⟨_, _, _, rfl, by rw [List.length_append]; simp; omega⟩
    · rw [if_neg c1]
      exact ⟨_, _, _, rfl, by omega⟩
theorem queue_loop {s : List Int} (hb : Bytes s) (hs : s.length ≤ 2000) (d : Nat) : ∀ (k : Nat) (p : Int) (ts : List S37) (q : Int), 20 * d + 200 < k → ts.length + d ≤ 20 → Heavy ts → 0 ≤ p → p + 10 * d ≤ 800000000 →
    ∃ ts' q' p', spec_l92Queue.l0 k (d : Int) s p ts q = some (ts', q', p') ∧ ts'.length ≤ 21 := by
  induction d with
  | zero =>
    intro k p ts q hk hl hW hp0 hp1
    obtain ⟨k, rfl⟩ : ∃ m, k = m + 1 := ⟨k - 1, by omega⟩
    exact end_ok hb hs k p ts q (by omega) (by omega) hp0 (by omega)
  | succ d ih =>
    intro k p ts q hk hl hW hp0 hp1
    obtain ⟨k, rfl⟩ : ∃ m, k = m + 1 + 1 := ⟨k - 2, by omega⟩
    -- behind the task that may be added: ticks, a rest, a wake
    have tail : ∀ (p : Int) (ts : List S37) (q : Int), ts.length + d ≤ 20 → Heavy ts → 0 ≤ p → p + 10 * d + 4 ≤ 800000000 → ∃ ts' q' p', spec_l92Queue.j1 (k + 1) ((d + 1 : Nat) : Int) s p ts q = some (ts', q', p') ∧ ts'.length ≤ 21 := by
      intro p ts q hl hW hp0 hp1
      obtain ⟨e, he, e0, e1, _⟩ := pick_ok hb hs (p := p) hp0 (by omega) 9 (k := k) (by omega)
      have e1 := e1 (by omega)
      obtain ⟨ts1, q1, g1, g2, g3⟩ := ticks_ok ((d + 1 : Nat) : Int) s (p + 1) e.toNat k ts q (by omega) (by omega) (by omega) hW
      obtain ⟨m, hm⟩ : ∃ m, k - e.toNat = m + 2 := ⟨k - e.toNat - 2, by omega⟩
      obtain ⟨ts2, q2, p2, r1, r2, r3, r4, r5⟩ := rest_ok hb hs d m (p + 1) ts1 q1 (by omega) (by omega) g3 (by omega) (by omega) (by omega)
      obtain ⟨ts3, q3, p3, z1, z2⟩ := ih m p2 ts2 q2 (by omega) (by omega) r3 (by omega) (by omega)
      refine ⟨ts3, q3, p3, ?_, z2⟩
      rw [spec_l92Queue.j1, he, Option.bind_some]
      simp only
      rw [show e = ((e.toNat : Nat) : Int) by omega, g1, hm, r1, z1]
    obtain ⟨a, ha, a0, a1, _⟩ := pick_ok hb hs (p := p) hp0 (by omega) 8 (k := k + 1) (by omega)
    obtain ⟨j, hj⟩ := at_ok ts q a (by omega) ts.length (k + 1) 0 (by omega) (by omega)
    have hj' : spec_l11At.f (k + 1) ts q a = some j := hj
    rw [spec_l92Queue.l0, if_pos (by omega), ha, Option.bind_some]
    simp only
    rw [hj', Option.bind_some]
    by_cases c : j < 0
    · obtain ⟨b, hb', b0, b1, _⟩ := pick_ok hb hs (p := p + 1) (by omega) (by omega) 6 (k := k + 1) (by omega)
      have b1 := b1 (by omega)
      have hw : wrap64 (1 + b) = 1 + b := w64 (by omega) (by omega)
      obtain ⟨ts1, g1, g2, g3⟩ := add_ok ts q a (1 + b) q true (by clear hw; omega) hW (by clear hw; omega) ts.length (k + 1) 0 [] false (by clear hw; omega) (by clear hw; omega) (by simp) (fun z hz => by cases hz)
      have g1' : spec_l11Add.f (k + 1) ts q a (1 + b) q true = some (ts1, q) := g1
      rw [if_pos c, hb', Option.bind_some]
      simp only
      rw [hw, g1', Option.bind_some]
      exact tail (p + 1 + 1) ts1 q (by clear hw; omega) g3 (by clear hw; omega) (by clear hw; omega)
    · rw [if_neg c]
      exact tail (p + 1) ts q (by omega) hW (by omega) (by omega)
theorem queue_ok {s : List Int} (hb : Bytes s) (hs : s.length ≤ 2000) {k : Nat} (hk : 400 ≤ k) : ∃ ts q p, spec_l92Queue.f k s 0 = some (ts, q, p) ∧ ts.length ≤ 21 := by
  obtain ⟨n, hn, n0, n1, _⟩ := pick_ok hb hs (p := 0) (by omega) (by omega) 6 (k := k) (by omega)
  have n1 := n1 (by omega)
  unfold spec_l92Queue.f
  rw [hn, Option.bind_some]
  simp only
  obtain ⟨ts, q, p, h1, h2⟩ := queue_loop hb hs n.toNat k (0 + 1) [] 0 (by omega) (by simp; omega) (fun z hz => by cases hz) (by omega) (by omega)
  rw [show ((n.toNat : Nat) : Int) = n by omega] at h1
  exact ⟨ts, q, p, h1, h2⟩

theorem cost_loop (ts : List S37) (fl x : Int) (n : Nat) (hts : ts.length ≤ 1000) (hn : n < ts.length) (hx : (rd_T37 ts (n : Int)).f0 = x) (hr : (rd_T37 ts (n : Int)).f3 = true)
    (hu : ∀ j : Nat, j < ts.length → (rd_T37 ts (j : Int)).f0 = x → j = n) (d : Nat) : ∀ (k i : Nat), i + d = ts.length → d < k → ∃ k', k' + d + 1 = k ∧ laws_FnQueueNext.l0 k x (if n < i then (rd_T37 ts (n : Int)).f2 else -1) (i : Int) ts fl = laws_FnQueueNext.l1 k' ((rd_T37 ts (n : Int)).f2) 0 ts fl := by
  induction d with
  | zero =>
    intro k i hi hk
    obtain ⟨k, rfl⟩ : ∃ m, k = m + 1 := ⟨k - 1, by omega⟩
    refine ⟨k, by omega, ?_⟩
    rw [laws_FnQueueNext.l0, if_neg (by omega), if_pos (by omega)]
  | succ d ih =>
    intro k i hi hk
    obtain ⟨k, rfl⟩ : ∃ m, k = m + 1 := ⟨k - 1, by omega⟩
    obtain ⟨k', e0, e⟩ := ih k (i + 1) (by omega) (by omega)
    refine ⟨k', by omega, ?_⟩
    rw [laws_FnQueueNext.l0, if_pos (by omega), if_pos (by omega), wsucc (show i < ts.length by omega) (by omega)]
    by_cases c : i = n
    · subst c
      rw [if_pos hx, if_pos hr, ← e, if_pos (by omega)]
    · have h2 : ¬ (rd_T37 ts (i : Int)).f0 = x := fun h => c (hu i (by omega) h)
      rw [if_neg h2, ← e]
      by_cases c2 : n < i
      · rw [if_pos c2, if_pos (by omega)]
      · rw [if_neg c2, if_neg (by omega)]
theorem least_loop (ts : List S37) (fl y : Int) (hts : ts.length ≤ 1000) (hy : 0 ≤ y) (hm : ∀ j : Nat, j < ts.length → (rd_T37 ts (j : Int)).f3 = true → y ≤ (rd_T37 ts (j : Int)).f2) (d : Nat) : ∀ (k i : Nat), i + d = ts.length → d < k → laws_FnQueueNext.l1 k y (i : Int) ts fl = some true := by
  induction d with
  | zero =>
    intro k i hi hk
    obtain ⟨k, rfl⟩ : ∃ m, k = m + 1 := ⟨k - 1, by omega⟩
    rw [laws_FnQueueNext.l1, if_neg (by omega), decide_eq_true hy]
  | succ d ih =>
    intro k i hi hk
    obtain ⟨k, rfl⟩ : ∃ m, k = m + 1 := ⟨k - 1, by omega⟩
    have e := ih k (i + 1) (by omega) (by omega)
    rw [laws_FnQueueNext.l1, if_pos (by omega), if_pos (by omega), wsucc (show i < ts.length by omega) (by omega), e]
    by_cases c : (rd_T37 ts (i : Int)).f3 = true
    · rw [if_pos c, if_neg (by have := hm i (by omega) c; omega)]
    · rw [if_neg c]

theorem FnQueueNext : BdFnQueueNext.Pure := by
  intro l0 ⟨_, hwf⟩
  obtain ⟨K, hK⟩ : ∃ K : Nat, 4000 ≤ K := ⟨4000, Nat.le_refl _⟩
  refine ⟨K, ?_⟩
  unfold laws_FnQueueNext.f
  by_cases hl : (l0.length : Int) > 1048576
  · rw [if_pos hl]
  · rw [if_neg hl]
    obtain ⟨s, ho, hb, hs⟩ := open_ok (bytes_of_wf hwf)
    obtain ⟨ts, q, p, h1, hn⟩ := queue_ok hb hs (k := K) (by omega)
    have hd : spec_DrawQueueNext.f K l0 = some (ts, q) := by
      unfold spec_DrawQueueNext.f
      rw [ho]; simp only [Option.bind_some]
      rw [h1]; simp only [Option.bind_some]
    rw [hd]; simp only [Option.bind_some]
    rw [qnext_spec ts q (by omega) (k := K) (by omega), qnext_impl ts q (by omega) (k := K) (by omega)]
    simp only [Option.bind_some, if_true, beq_self_eq_true]
    obtain ⟨K, rfl⟩ : ∃ m, K = m + 1 := ⟨K - 1, by omega⟩
    rw [laws_FnQueueNext.j0]
    by_cases c : qNext ts q ≥ 0
    · rw [decide_eq_true c, if_neg (by decide)]
      unfold qNext at c
      have hf : qFine ts q = true := by
        cases e : qFine ts q with
        | true => rfl
        | false => rw [e, if_neg (by decide)] at c; omega
      rw [if_pos hf] at c
      have hp : ¬ nxFrom ts (-1) 0 ts.length < 0 := by
        intro e; rw [if_pos e] at c; omega
      rw [if_neg hp] at c
      have hq : qNext ts q = (rd_T37 ts (nxFrom ts (-1) 0 ts.length)).f0 := by unfold qNext; rw [if_pos hf, if_neg hp]
      obtain ⟨b0, b1⟩ := nxFrom_bound ts ts.length (-1) 0 (by omega) (by omega)
      have hr := (nxFrom_ready ts ts.length (-1) 0 (by omega)).resolve_left (by omega)
      have hm := (nx_min ts ts.length (-1) 0).2
      obtain ⟨n, hnn⟩ : ∃ n : Nat, nxFrom ts (-1) 0 ts.length = (n : Int) := ⟨(nxFrom ts (-1) 0 ts.length).toNat, by omega⟩
      rw [hnn] at hq hr hm b1
      have hnl : n < ts.length := by omega
      obtain ⟨k', e0, e⟩ := cost_loop ts q (qNext ts q) n (by omega) hnl hq.symm hr (fun j hj he => fine_uniq hf hj hnl (by rw [he, hq])) ts.length K 0 (by omega) (by omega)
      rw [if_neg (by omega)] at e
      rw [show (0 : Int) = ((0 : Nat) : Int) from rfl, e]
      exact least_loop ts q _ (by omega) (fine_step hf n hnl).2.1 (fun j hj h3 => hm j (by omega) (by omega) h3) ts.length k' 0 (by omega) (by omega)
    · rw [decide_eq_false c, if_pos (by decide)]

end Go.Proofs.Ytjajfbgijailmaa.Pure
