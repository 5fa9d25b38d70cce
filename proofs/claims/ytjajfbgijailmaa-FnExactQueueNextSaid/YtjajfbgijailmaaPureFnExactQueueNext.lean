/- The program's QueueNext and the reference's answer alike at every queue. -/
import Derived.Test.YtjajfbgijailmaaBdFnExactQueueNext
import Derived.WideShapes
import Derived.IntWalk
import Derived.OpenShut
namespace Go.Proofs.Ytjajfbgijailmaa.Pure
open Go.RowKit Go.Proofs.Ytjajfbgijailmaa.XFnExactQueueNext Go.Proofs.YtjajfbgijailmaaW.PrintWords Go.Proofs.YtjajfbgijailmaaW.PrintLast
/-! ### small facts on numbers, bytes and rounds -/
theorem w64 {n : Int} (h1 : -9223372036854775808 ≤ n) (h2 : n ≤ 9223372036854775807) : wrap64 n = n := by unfold wrap64; omega
theorem w64_range (n : Int) : -9223372036854775808 ≤ wrap64 n ∧ wrap64 n ≤ 9223372036854775807 := by unfold wrap64; omega
theorem xor_ok {x y : Int} (hx : 0 ≤ x) (hx2 : x < 4611686018427387904) (hy : 0 ≤ y) (hy2 : y < 4611686018427387904) : 0 ≤ Go.bits .xor .i64 x y ∧ Go.bits .xor .i64 x y < 4611686018427387904 := by
  have h1 : (BitVec.ofInt 64 x ^^^ BitVec.ofInt 64 y).toNat < 2 ^ 62 := by
    rw [BitVec.toNat_xor]
    apply Nat.xor_lt_two_pow
    · rw [BitVec.toNat_ofInt]; omega
    · rw [BitVec.toNat_ofInt]; omega
  have h2 : Go.bits .xor .i64 x y = ((BitVec.ofInt 64 x ^^^ BitVec.ofInt 64 y).toNat : Int) := by
    show IntKind.wrap .i64 ((BitVec.ofInt 64 x ^^^ BitVec.ofInt 64 y).toNat : Int) = _
    generalize (BitVec.ofInt 64 x ^^^ BitVec.ofInt 64 y).toNat = m at h1
    exact IntWalk.i64_in _ (by omega)
  rw [h2]; omega
theorem tmod_ok {x n : Int} (hx : 0 ≤ x) (hn : 1 ≤ n) : 0 ≤ Int.tmod x n ∧ Int.tmod x n < n := by
  rw [Int.tmod_eq_emod_of_nonneg hx]
  exact ⟨Int.emod_nonneg _ (by omega), Int.emod_lt_of_pos _ (by omega)⟩
theorem tdiv_ok {x n : Int} (hx : 0 ≤ x) (hn : 1 ≤ n) : 0 ≤ Int.tdiv x n ∧ Int.tdiv x n ≤ x := by
  rw [Int.tdiv_eq_ediv_of_nonneg hx]
  exact ⟨Int.ediv_nonneg hx (by omega), Int.ediv_le_self _ hx⟩
theorem rd_mem {xs : List Int} {i : Int} (h0 : 0 ≤ i) (h1 : i < (xs.length : Int)) : rd xs i ∈ xs := by
  have hl : i.toNat < xs.length := by omega
  unfold rd
  rw [List.getD_eq_getElem?_getD, List.getElem?_eq_getElem hl]
  exact List.getElem_mem hl
def Bytes (s : List Int) : Prop := ∀ x ∈ s, 0 ≤ x ∧ x ≤ 255
theorem bytes_of_wf {s : List Int} (h : ∀ x ∈ s, (Lit.int .u8 x).wf = true) : Bytes s := fun x hx => Go.bounds_u8 (h x hx)
theorem bytes_rd {s : List Int} (h : Bytes s) {i : Int} (h0 : 0 ≤ i) (h1 : i < (s.length : Int)) : 0 ≤ rd s i ∧ rd s i ≤ 255 := h _ (rd_mem h0 h1)
theorem toList_inj {a b : ByteArray} : a.toList = b.toList ↔ a = b := by
  rw [ByteArray.toList_eq, ByteArray.toList_eq]
  constructor
  · intro h; exact Go.WideShapes.bytes_inj h
  · rintro rfl; rfl
theorem toList_nil {a : ByteArray} : a.toList = ([] : List UInt8) ↔ a.size = 0 := by
  rw [ByteArray.toList_eq, List.eq_nil_iff_length_eq_zero, data_length]
/-! ### rows that are copied, and rows that are held against themselves -/
theorem to_gen {β : Type} {l0 : Nat → List β → Int → Option (List β)} (xs : List β) (K : Nat)
    (hstep : ∀ (k : Nat) (acc : List β) (i : Nat) (hi : i < xs.length), K ≤ k → acc.length = xs.length → l0 (k + 1) acc (i : Int) = l0 k (acc.set i (xs[i]'hi)) ((i + 1 : Nat) : Int))
    (hend : ∀ (k : Nat) (acc : List β), l0 (k + 1) acc (xs.length : Int) = some acc) :
    ∀ (k : Nat) (acc : List β), acc.length = xs.length → xs.length + K < k → l0 k acc 0 = some xs := by
  have key : ∀ (d : Nat) (k : Nat) (acc : List β) (i : Nat), i + d = xs.length → d + K < k → acc.length = xs.length → (∀ j, j < i → acc[j]? = xs[j]?) → l0 k acc (i : Int) = some xs := by
    intro d
    induction d with
    | zero =>
      intro k acc i hd hk hl hj
      obtain ⟨k, rfl⟩ : ∃ m, k = m + 1 := ⟨k - 1, by omega⟩
      obtain rfl : i = xs.length := by omega
      rw [hend]
      congr 1
      apply List.ext_getElem?
      intro j
      by_cases h : j < xs.length
      · exact hj j h
      · rw [List.getElem?_eq_none (by omega), List.getElem?_eq_none (by omega)]
    | succ d ih =>
      intro k acc i hd hk hl hj
      obtain ⟨k, rfl⟩ : ∃ m, k = m + 1 := ⟨k - 1, by omega⟩
      have hi : i < xs.length := by omega
      rw [hstep k acc i hi (by omega) hl]
      refine ih k _ (i + 1) (by omega) (by omega) (by rw [List.length_set]; exact hl) (fun j hjl => ?_)
      by_cases e : j = i
      · subst e
        rw [List.getElem?_set_self (by omega), List.getElem?_eq_getElem hi]
      · rw [List.getElem?_set_ne (by omega)]
        exact hj j (by omega)
  intro k acc hl hk
  exact key xs.length k acc 0 (by omega) (by omega) hl (fun j hj => absurd hj (Nat.not_lt_zero j))
theorem eq_gen {l0 : Nat → Int → Option Bool} (n : Nat) (K : Nat)
    (hstep : ∀ (k : Nat) (i : Nat), i < n → K ≤ k → l0 (k + 1) (i : Int) = l0 k ((i + 1 : Nat) : Int)) (hend : ∀ (k : Nat), l0 (k + 1) (n : Int) = some true) :
    ∀ (k : Nat), n + K < k → l0 k 0 = some true := by
  have key : ∀ (d : Nat) (k : Nat) (i : Nat), i + d = n → d + K < k → l0 k (i : Int) = some true := by
    intro d
    induction d with
    | zero =>
      intro k i hd hk
      obtain ⟨k, rfl⟩ : ∃ m, k = m + 1 := ⟨k - 1, by omega⟩
      obtain rfl : i = n := by omega
      exact hend k
    | succ d ih =>
      intro k i hd hk
      obtain ⟨k, rfl⟩ : ∃ m, k = m + 1 := ⟨k - 1, by omega⟩
      rw [hstep k i (by omega) (by omega)]
      exact ih k (i + 1) (by omega) (by omega)
  intro k hk
  exact key n k 0 (by omega) (by omega)
theorem rd_get {l : List Int} {i : Nat} (h : i < l.length) : rd l (i : Int) = l[i] := by simp [rd, h]
theorem rdOf_get {α : Type} {z : α} {l : List α} {i : Nat} (h : i < l.length) : rdOf z l (i : Int) = l[i] := by simp [rdOf, h]
theorem wsucc {i n : Nat} (h : i < n) (hn : n ≤ 4611686018427387904) : wrap64 ((i : Int) + 1) = ((i + 1 : Nat) : Int) := by rw [w64 (by omega) (by omega)]; omega
/-! ### QueueOk, of the program and of the reference -/
theorem qin_eq (a b c : Int) : impl_in.f a b c = some (decide (b ≤ a ∧ a ≤ c)) := by
  unfold impl_in.f
  by_cases h : a ≥ b <;> simp [h]
theorem qsin_eq (a b c : Int) : spec_l6In.f a b c = some (decide (b ≤ a ∧ a ≤ c)) := by
  unfold spec_l6In.f
  by_cases h : a ≥ b <;> simp [h]
def tkStep (ts : List S37) (fl : Int) (i : Nat) : Bool := decide (0 ≤ (rd_T37 ts (i : Int)).f0 ∧ (rd_T37 ts (i : Int)).f0 ≤ 99) && (decide (1 ≤ (rd_T37 ts (i : Int)).f1 ∧ (rd_T37 ts (i : Int)).f1 ≤ 6) && (decide (0 ≤ (rd_T37 ts (i : Int)).f2 ∧ (rd_T37 ts (i : Int)).f2 ≤ 1000000) && (!((rd_T37 ts (i : Int)).f3 && decide ((rd_T37 ts (i : Int)).f2 < fl)) && (decide (i = 0) || !decide ((rd_T37 ts ((i : Int) - 1)).f0 ≥ (rd_T37 ts (i : Int)).f0)))))
def tkFrom (ts : List S37) (fl : Int) (i : Nat) : Nat → Bool
  | 0 => decide (ts.length ≤ 6) && decide (0 ≤ fl ∧ fl ≤ 1000000)
  | d + 1 => tkStep ts fl i && tkFrom ts fl (i + 1) d
def qFine (ts : List S37) (fl : Int) : Bool := tkFrom ts fl 0 ts.length
theorem q_spec (ts : List S37) (fl : Int) (hn : ts.length ≤ 4611686018427387904) (d : Nat) : ∀ (k i : Nat), i + d = ts.length → 2 * d + 1 < k → spec_QueueOk.l0 k (i : Int) ts fl = some (tkFrom ts fl i d) := by
  induction d with
  | zero =>
    intro k i hi hk
    obtain ⟨k, rfl⟩ : ∃ m, k = m + 1 := ⟨k - 1, by omega⟩
    rw [spec_QueueOk.l0, if_neg (by omega), qsin_eq]
    simp only [Option.bind_some, tkFrom]
    by_cases c : ts.length ≤ 6
    · rw [if_pos (by omega)]; simp [c]
    · rw [if_neg (by omega)]; simp [c]
  | succ d ih =>
    intro k i hi hk
    obtain ⟨k, rfl⟩ : ∃ m, k = m + 1 + 1 := ⟨k - 2, by omega⟩
    have q0 : (i : Int) < (ts.length : Int) := by omega
    have q1 : 0 ≤ (i : Int) := by omega
    have w : wrap64 ((i : Int) + 1) = ((i + 1 : Nat) : Int) := wsucc (show i < ts.length by omega) (by omega)
    have w' : wrap64 ((i : Int) - 1) = (i : Int) - 1 := w64 (by clear w; omega) (by clear w; omega)
    have j : ∀ b, spec_QueueOk.j1 (k + 1) (i : Int) b ts fl = some (!b && tkFrom ts fl (i + 1) d) := by
      intro b
      rw [spec_QueueOk.j1]
      cases b with
      | true => rfl
      | false => rw [if_neg (by decide), w, ih k (i + 1) (by clear w w'; omega) (by clear w w'; omega)]; rfl
    rw [spec_QueueOk.l0, if_pos q0, if_pos q1, w']
    clear w w'
    simp only [qsin_eq, Option.bind_some, j, tkFrom, tkStep]
    generalize tkFrom ts fl (i + 1) d = z
    generalize (rd_T37 ts (i : Int)).f0 = f0
    generalize (rd_T37 ts (i : Int)).f1 = f1
    generalize (rd_T37 ts (i : Int)).f2 = f2
    generalize (rd_T37 ts (i : Int)).f3 = f3
    generalize (rd_T37 ts ((i : Int) - 1)).f0 = g0
    by_cases c1 : 0 ≤ f0 ∧ f0 ≤ 99
    · by_cases c2 : 1 ≤ f1 ∧ f1 ≤ 6
      · by_cases c3 : 0 ≤ f2 ∧ f2 ≤ 1000000
        · rw [if_pos (decide_eq_true c1), if_pos (decide_eq_true c2), if_pos (decide_eq_true c3)]
          by_cases ci : i = 0
          · rw [if_neg (by omega)]
            cases f3 <;> simp [c1, c2, c3, ci]
          · rw [if_pos (by omega), if_pos (by omega), if_pos (by omega)]
            cases f3 <;> by_cases c5 : g0 ≥ f0 <;> simp [c1, c2, c3, ci, c5]
        · simp [c1, c2, c3]
      · simp [c1, c2]
    · simp [c1]
theorem q_impl (ts : List S37) (fl : Int) (hn : ts.length ≤ 4611686018427387904) (d : Nat) : ∀ (k i : Nat), i + d = ts.length → 2 * d + 1 < k → impl_QueueOk.l0 k ts (ts.length : Int) (i : Int) ts fl = some (tkFrom ts fl i d) := by
  induction d with
  | zero =>
    intro k i hi hk
    obtain ⟨k, rfl⟩ : ∃ m, k = m + 1 := ⟨k - 1, by omega⟩
    rw [impl_QueueOk.l0, if_neg (by omega), qin_eq]
    simp only [Option.bind_some, tkFrom]
    by_cases c : ts.length ≤ 6
    · rw [if_pos (by omega)]; simp [c]
    · rw [if_neg (by omega)]; simp [c]
  | succ d ih =>
    intro k i hi hk
    obtain ⟨k, rfl⟩ : ∃ m, k = m + 1 + 1 := ⟨k - 2, by omega⟩
    have q0 : (i : Int) < (ts.length : Int) := by omega
    have q1 : 0 ≤ (i : Int) := by omega
    have w : wrap64 ((i : Int) + 1) = ((i + 1 : Nat) : Int) := wsucc (show i < ts.length by omega) (by omega)
    have w' : wrap64 ((i : Int) - 1) = (i : Int) - 1 := w64 (by clear w; omega) (by clear w; omega)
    have j : ∀ b, impl_QueueOk.j1 (k + 1) ts (ts.length : Int) (i : Int) b ts fl = some (!b && tkFrom ts fl (i + 1) d) := by
      intro b
      rw [impl_QueueOk.j1]
      cases b with
      | true => rfl
      | false => rw [if_neg (by decide), w, ih k (i + 1) (by clear w w'; omega) (by clear w w'; omega)]; rfl
    rw [impl_QueueOk.l0, if_pos q0, if_pos q1, if_pos q0, w']
    clear w w'
    simp only [qin_eq, Option.bind_some, j, tkFrom, tkStep]
    generalize tkFrom ts fl (i + 1) d = z
    generalize (rd_T37 ts (i : Int)).f0 = f0
    generalize (rd_T37 ts (i : Int)).f1 = f1
    generalize (rd_T37 ts (i : Int)).f2 = f2
    generalize (rd_T37 ts (i : Int)).f3 = f3
    generalize (rd_T37 ts ((i : Int) - 1)).f0 = g0
    by_cases c1 : 0 ≤ f0 ∧ f0 ≤ 99
    · by_cases c2 : 1 ≤ f1 ∧ f1 ≤ 6
      · by_cases c3 : 0 ≤ f2 ∧ f2 ≤ 1000000
        · rw [if_pos (decide_eq_true c1), if_pos (decide_eq_true c2), if_pos (decide_eq_true c3)]
          by_cases ci : i = 0
          · cases f3 <;> by_cases c4 : f2 < fl <;> simp [c1, c2, c3, c4, ci]
          · have p0 : (i : Int) > 0 := by omega
            have p1 : 0 ≤ (i : Int) - 1 := by omega
            have p3 : 0 < i := by omega
            have p4 : 1 ≤ (i : Int) := by omega
            have p2 : (i : Int) - 1 < (ts.length : Int) := by omega
            cases f3 <;> by_cases c4 : f2 < fl <;> by_cases c5 : g0 ≥ f0 <;> simp [c1, c2, c3, c4, c5, ci, p2, p3, p4]
        · simp [c1, c2, c3]
      · simp [c1, c2]
    · simp [c1]
theorem qok_spec (ts : List S37) (fl : Int) (hn : ts.length ≤ 4611686018427387904) {k : Nat} (hk : 2 * ts.length + 1 < k) : spec_QueueOk.f k ts fl = some (qFine ts fl) := by
  have := q_spec ts fl hn ts.length k 0 (by omega) hk
  unfold spec_QueueOk.f qFine
  exact this
theorem qok_impl (ts : List S37) (fl : Int) (hn : ts.length ≤ 4611686018427387904) {k : Nat} (hk : 2 * ts.length + 1 < k) : impl_QueueOk.f k ts fl = some (qFine ts fl) := by
  have := q_impl ts fl hn ts.length k 0 (by omega) hk
  unfold impl_QueueOk.f qFine
  exact this
/-! ### QueueNext, of the program and of the reference -/
def nxPick (ts : List S37) (b : Int) (i : Nat) : Bool := (rd_T37 ts (i : Int)).f3 && (decide (b < 0) || decide ((rd_T37 ts (i : Int)).f2 < (rd_T37 ts b).f2))
def nxFrom (ts : List S37) (b : Int) (i : Nat) : Nat → Int
  | 0 => b
  | d + 1 => nxFrom ts (if nxPick ts b i = true then (i : Int) else b) (i + 1) d
theorem nxFrom_bound (ts : List S37) (d : Nat) : ∀ (b : Int) (i : Nat), -1 ≤ b → b < i → -1 ≤ nxFrom ts b i d ∧ nxFrom ts b i d < (i : Int) + d := by
  induction d with
  | zero => intro b i h1 h2; unfold nxFrom; omega
  | succ d ih =>
    intro b i h1 h2
    unfold nxFrom
    by_cases c : nxPick ts b i = true
    · rw [if_pos c]; have := ih (i : Int) (i + 1) (by omega) (by omega); omega
    · rw [if_neg c]; have := ih b (i + 1) (by omega) (by omega); omega
theorem nx_spec (ts : List S37) (fl : Int) (hn : ts.length ≤ 4611686018427387904) (d : Nat) : ∀ (k i : Nat) (b : Int), i + d = ts.length → 2 * d + 1 < k → -1 ≤ b → b < i → spec_l11Next.l0 k b (i : Int) ts fl = some (nxFrom ts b i d) := by
  induction d with
  | zero =>
    intro k i b hi hk hb hb2
    obtain ⟨k, rfl⟩ : ∃ m, k = m + 1 := ⟨k - 1, by omega⟩
    rw [spec_l11Next.l0, if_neg (by omega)]; rfl
  | succ d ih =>
    intro k i b hi hk hb hb2
    obtain ⟨k, rfl⟩ : ∃ m, k = m + 1 + 1 := ⟨k - 2, by omega⟩
    have q0 : (i : Int) < (ts.length : Int) := by omega
    have q1 : 0 ≤ (i : Int) := by omega
    have q2 : b < (ts.length : Int) := by omega
    have i1 := ih k (i + 1) (i : Int) (by omega) (by omega) (by omega) (by omega)
    have i2 := ih k (i + 1) b (by omega) (by omega) (by omega) (by omega)
    have w : wrap64 ((i : Int) + 1) = ((i + 1 : Nat) : Int) := wsucc (show i < ts.length by omega) (by omega)
    have j : ∀ p, spec_l11Next.j1 (k + 1) b (i : Int) p ts fl = some (nxFrom ts (if p = true then (i : Int) else b) (i + 1) d) := by
      intro p
      rw [spec_l11Next.j1, w]
      cases p with
      | true => rw [if_pos rfl, if_pos rfl, i1]
      | false => rw [if_neg (by decide), if_neg (by decide), i2]
    clear w
    rw [spec_l11Next.l0, if_pos q0, if_pos q1]
    simp only [j, nxFrom, nxPick]
    clear j i1 i2 ih
    by_cases c : b < 0
    · by_cases hf : (rd_T37 ts (i : Int)).f3 = true <;> simp [hf, c]
    · have c' : 0 ≤ b := by omega
      by_cases hf : (rd_T37 ts (i : Int)).f3 = true <;> simp [hf, c, c', q2]
theorem nx_impl (ts : List S37) (fl : Int) (hn : ts.length ≤ 4611686018427387904) (d : Nat) : ∀ (k i : Nat) (b : Int), i + d = ts.length → 2 * d + 1 < k → -1 ≤ b → b < i → impl_Queue_next.l0 k b ts (ts.length : Int) (i : Int) ts fl = some (nxFrom ts b i d) := by
  induction d with
  | zero =>
    intro k i b hi hk hb hb2
    obtain ⟨k, rfl⟩ : ∃ m, k = m + 1 := ⟨k - 1, by omega⟩
    rw [impl_Queue_next.l0, if_neg (by omega)]; rfl
  | succ d ih =>
    intro k i b hi hk hb hb2
    obtain ⟨k, rfl⟩ : ∃ m, k = m + 1 + 1 := ⟨k - 2, by omega⟩
    have q0 : (i : Int) < (ts.length : Int) := by omega
    have q1 : 0 ≤ (i : Int) := by omega
    have q2 : b < (ts.length : Int) := by omega
    have i1 := ih k (i + 1) (i : Int) (by omega) (by omega) (by omega) (by omega)
    have i2 := ih k (i + 1) b (by omega) (by omega) (by omega) (by omega)
    have w : wrap64 ((i : Int) + 1) = ((i + 1 : Nat) : Int) := wsucc (show i < ts.length by omega) (by omega)
    have j : ∀ p, impl_Queue_next.j1 (k + 1) b (i : Int) ts (ts.length : Int) (i : Int) p ts fl = some (nxFrom ts (if p = true then (i : Int) else b) (i + 1) d) := by
      intro p
      rw [impl_Queue_next.j1, w]
      cases p with
      | true => rw [if_pos rfl, if_pos rfl, i1]
      | false => rw [if_neg (by decide), if_neg (by decide), i2]
    clear w
    rw [impl_Queue_next.l0, if_pos q0, if_pos q1, if_pos q0]
    simp only [j, nxFrom, nxPick]
    clear j i1 i2 ih
    by_cases c : b < 0
    · by_cases hf : (rd_T37 ts (i : Int)).f3 = true <;> simp [hf, c]
    · have c' : 0 ≤ b := by omega
      by_cases hf : (rd_T37 ts (i : Int)).f3 = true <;> simp [hf, c, c', q2]
def qNext (ts : List S37) (fl : Int) : Int := if qFine ts fl = true then (if nxFrom ts (-1) 0 ts.length < 0 then -1 else (rd_T37 ts (nxFrom ts (-1) 0 ts.length)).f0) else -1
theorem qnext_spec (ts : List S37) (fl : Int) (hn : ts.length ≤ 4611686018427387904) {k : Nat} (hk : 2 * ts.length + 1 < k) : spec_QueueNext.f k ts fl = some (qNext ts fl) := by
  have h1 : spec_l11Next.l0 k (-1) 0 ts fl = some (nxFrom ts (-1) 0 ts.length) := nx_spec ts fl hn ts.length k 0 (-1) (by omega) hk (by omega) (by omega)
  have hb := nxFrom_bound ts ts.length (-1) 0 (by omega) (by omega)
  unfold spec_QueueNext.f spec_l11Next.f qNext
  rw [h1, Option.bind_some, qok_spec ts fl hn hk, Option.bind_some]
  by_cases c : qFine ts fl = true
  · rw [if_pos c, if_pos c]
    by_cases c2 : nxFrom ts (-1) 0 ts.length < 0
    · rw [if_pos (by omega), if_pos (by omega)]
    · rw [if_neg c2, if_pos (show 0 ≤ nxFrom ts (-1) 0 ts.length by omega), if_pos (show nxFrom ts (-1) 0 ts.length < (ts.length : Int) by omega), if_neg c2]
  · rw [if_neg c, if_neg c]
theorem qnext_impl (ts : List S37) (fl : Int) (hn : ts.length ≤ 4611686018427387904) {k : Nat} (hk : 2 * ts.length + 1 < k) : impl_QueueNext.f k ts fl = some (qNext ts fl) := by
  have h1 : impl_Queue_next.l0 k (-1) ts (ts.length : Int) 0 ts fl = some (nxFrom ts (-1) 0 ts.length) := nx_impl ts fl hn ts.length k 0 (-1) (by omega) hk (by omega) (by omega)
  have hb := nxFrom_bound ts ts.length (-1) 0 (by omega) (by omega)
  unfold impl_QueueNext.f impl_Queue_next.f qNext
  rw [h1, Option.bind_some, qok_impl ts fl hn hk, Option.bind_some]
  by_cases c : qFine ts fl = true
  · rw [if_pos c, if_pos c]
    by_cases c2 : nxFrom ts (-1) 0 ts.length < 0
    · rw [if_neg (show ¬ nxFrom ts (-1) 0 ts.length ≥ 0 by omega), if_pos c2]
    · rw [if_pos (show nxFrom ts (-1) 0 ts.length ≥ 0 by omega), if_pos (show 0 ≤ nxFrom ts (-1) 0 ts.length by omega), if_pos (show nxFrom ts (-1) 0 ts.length < (ts.length : Int) by omega), if_neg c2]
  · rw [if_neg c, if_neg c]
def cv (x : S91) : S37 := ⟨x.f0, x.f1, x.f2, x.f3⟩
theorem rd91_get {l : List S91} {i : Nat} (h : i < l.length) : rd_T91 l (i : Int) = l[i] := by simp [rd_T91, h]
theorem toTaskS_ok (l : List S91) (hl : l.length ≤ 8796093022208) {k : Nat} (hk : l.length < k) : laws_toTaskS.f k l = some (l.map cv) := by
  unfold laws_toTaskS.f
  rw [if_pos (by omega), if_pos (by omega)]
  refine to_gen (l0 := fun k acc i => laws_toTaskS.l0 k l acc i) (l.map cv) 0 ?_ ?_ k _ (by simp) (by simp; omega)
  · intro k acc i hi _ ha
    have hi' : i < l.length := by simpa using hi
    have ha' : acc.length = l.length := by simpa using ha
    show laws_toTaskS.l0 (k + 1) l acc (i : Int) = _
    rw [laws_toTaskS.l0, if_pos (by omega), if_pos (by omega)]
    unfold laws_toTask.f
    rw [Option.bind_some, if_pos (by omega), wsucc hi' (by omega), Int.toNat_natCast, rd91_get hi', List.getElem_map]
    rfl
  · intro k acc
    show laws_toTaskS.l0 (k + 1) l acc ((l.map cv).length : Int) = _
    rw [laws_toTaskS.l0, if_neg (by simp)]
theorem eqTask_ok (a b c : Int) (d : Bool) : laws_eqTask.f a b c d a b c d = some true := by
  unfold laws_eqTask.f
  rw [if_pos rfl, if_pos rfl, if_pos rfl, if_neg (by simp)]
theorem eqTaskS_ok (l : List S37) (hl : l.length ≤ 8796093022208) {k : Nat} (hk : l.length < k) : laws_eqTaskS.f k l l = some true := by
  unfold laws_eqTaskS.f
  rw [if_pos rfl]
  refine eq_gen (l0 := fun k i => laws_eqTaskS.l0 k l l i) l.length 0 ?_ ?_ k (by omega)
  · intro k i hi _
    show laws_eqTaskS.l0 (k + 1) l l (i : Int) = _
    rw [laws_eqTaskS.l0, if_pos (by omega), if_pos (by omega), if_pos (by omega), eqTask_ok, Option.bind_some, if_pos rfl, wsucc hi (by omega)]
  · intro k
    show laws_eqTaskS.l0 (k + 1) l l (l.length : Int) = _
    rw [laws_eqTaskS.l0, if_neg (by omega)]
theorem toQueue_ok (l : List S91) (fl : Int) (hl : l.length ≤ 8796093022208) {k : Nat} (hk : l.length < k) : laws_toQueue.f k l fl = some (l.map cv, fl) := by
  unfold laws_toQueue.f
  rw [toTaskS_ok l hl hk, Option.bind_some]
theorem eqQueue_ok (l : List S37) (fl : Int) (hl : l.length ≤ 8796093022208) {k : Nat} (hk : l.length < k) : laws_eqQueue.f k l fl l fl = some true := by
  unfold laws_eqQueue.f
  rw [eqTaskS_ok l hl hk, Option.bind_some, if_pos rfl, if_pos rfl]
theorem szQueue_le (l : List S91) (fl : Int) (hl : l.length ≤ 140737488351232) : ∃ t, laws_szQueue.f l fl 1048576 = some t ∧ (0 ≤ t → l.length ≤ 1048576) := by
  unfold laws_szQueue.f laws_szTaskS.f
  rw [w64 (n := (1048576 : Int) - (l.length : Int)) (by omega) (by omega)]
  by_cases c : (1048576 : Int) - (l.length : Int) < 0
  · rw [if_pos c, Option.bind_some, if_pos (by omega)]
    exact ⟨_, rfl, fun h => by omega⟩
  · rw [if_neg c, Option.bind_some, if_neg c]
    exact ⟨_, rfl, fun h => by omega⟩

theorem FnExactQueueNext : BdFnExactQueueNext.Pure := by
  intro l fl ⟨⟨hl, _⟩, _⟩
  obtain ⟨t, ht, g1⟩ := szQueue_le l fl (by omega)
  obtain ⟨K, hK⟩ : ∃ K : Nat, 3000000 ≤ K := ⟨3000000, Nat.le_refl _⟩
  refine ⟨K, ?_⟩
  unfold laws_FnExactQueueNext.f
  rw [ht, Option.bind_some]
  by_cases c : t < 0
  · rw [if_pos c]
  · rw [if_neg c]
    have g1 := g1 (by omega)
    have hm : (l.map cv).length = l.length := by simp
    rw [toQueue_ok l fl (by omega) (by omega)]
    simp only [Option.bind_some]
    rw [qnext_spec (l.map cv) fl (by omega) (by omega), qnext_impl (l.map cv) fl (by omega) (by omega), eqQueue_ok (l.map cv) fl (by omega) (by omega)]
    simp

end Go.Proofs.Ytjajfbgijailmaa.Pure
