/- The plain law FnExactVfsPath, over what its functions compute: a part. No further condition. -/
import Derived.Test.YtjjblclmpjaegaaSxPFnExactVfsPathf
set_option linter.unusedVariables false
set_option linter.unusedSimpArgs false
namespace Go.Sx
open Go.RowKit Go.Lib
set_option linter.unusedVariables false
set_option linter.unusedSimpArgs false
/-! ### the tree: every folder has a way up, and one name -/
structure Tree (ns : List S86) : Prop where
  len : ns.length = 10
  ok : ∀ i, i < 10 → nodeS (nd ns i) = true
  up : ∀ j, j < 10 → kF ns j = true → ∃ k, k < 10 ∧ GUp (kE ns) k j
  one : ∀ j, j < 10 → kF ns j = true → 0 < j → gCnt (kE ns) 10 j = 1
theorem tree_of {ns : List S86} (hf : ∀ i, i < 10 → FitN (nd ns i)) {k : Nat} (hk : 80000000 ≤ k) (h : f14 k ⟨ns⟩ = some true) : Tree ns := by
  obtain ⟨hns, hok⟩ := fs_true hf hk h
  obtain ⟨b, s1, s2, _⟩ := spec_sum ns hns hf hk
  rw [h] at s1
  obtain rfl := Option.some.inj s1
  obtain ⟨_, _, M, hM, hc⟩ := s2 rfl
  have hN := names_S hok
  have all : ∀ j, j < 10 → kF ns j = true → j ∈ M := by
    intro j hj hF
    unfold kF at hF
    rw [decide_eq_true_eq] at hF
    rcases condS_iff.1 (hc j hj) with ⟨h0, _⟩ | ⟨_, _, _, h1⟩
    · omega
    · rcases h1 with h1 | h1
      · exact absurd hF h1
      · rw [mrk_rd hj, decide_eq_true_eq] at h1; exact h1
  have two : ∀ i j, j ∈ kE ns i → kF ns i = true := fun i j h => kE_two hns hN h
  exact ⟨hns, hok, fun j hj hF => gUp_of (kE ns) (kF ns) 10 hM (all j hj hF), fun j hj hF h0 => gOne (kE ns) (kF ns) 10 hM two all hF hj h0⟩
theorem kE_iff {ns : List S86} (hN : Names ns) {i j : Nat} (hi : i < 10) : j ∈ kE ns i ↔ ∃ q, q < (nd ns i).f8.length ∧ (rd67 (nd ns i).f8 (q : Int)).f1 = (j : Int) := by
  unfold kE
  rw [List.mem_map]
  constructor
  · rintro ⟨e, he, rfl⟩
    have := hN.rng i hi e he
    obtain ⟨q, hq, rfl⟩ := mem_rd he
    exact ⟨q, hq, by omega⟩
  · rintro ⟨q, hq, e⟩
    exact ⟨_, rd47_mem hq, by rw [e]; omega⟩
/-- The first entry of a node with a number. -/
def First (es : List S94) (j : Nat) (q : Nat) : Prop := q < es.length ∧ (rd67 es (q : Int)).f1 = (j : Int) ∧ ∀ p, p < q → (rd67 es (p : Int)).f1 ≠ (j : Int)
theorem first_uniq {es : List S94} {j p q : Nat} (hp : First es j p) (hq : First es j q) : p = q := by
  rcases Nat.lt_trichotomy p q with h | h | h
  · exact absurd hp.2.1 (hq.2.2 p h)
  · exact h
  · exact absurd hq.2.1 (hp.2.2 q h)
theorem par_in (ns es : List S94 ) : True := trivial
theorem p28_in (ns : List S86) (i j : Nat) (es : List S94) (hl : es.length ≤ 1000000000) (k d : Nat) : ∀ q, q + d = es.length → (∀ p, p < q → (rd67 es (p : Int)).f1 ≠ (j : Int)) →
    (∃ r, First es j r ∧ run step28 (k + d + 1) (J28.j5 (j : Int) (i : Int) ns (ns.length : Int) (i : Int) es (es.length : Int) (q : Int)) = some ((i : Int), nmAt es r)) ∨
    ((∀ p, p < es.length → (rd67 es (p : Int)).f1 ≠ (j : Int)) ∧ run step28 (k + d + 1) (J28.j5 (j : Int) (i : Int) ns (ns.length : Int) (i : Int) es (es.length : Int) (q : Int)) = run step28 k (J28.j2 (j : Int) ns (ns.length : Int) (w64 ((i : Int) + 1)))) := by
  induction d with
  | zero =>
    intro q hq hn
    have a0 : ¬ (q : Int) < (es.length : Int) := by omega
    refine .inr ⟨fun p hp => hn p (by omega), ?_⟩
    rw [run_succ]
    simp only [step28, a0, decide_false, cond_false]
  | succ d ih =>
    intro q hq hn
    have a0 : (q : Int) < (es.length : Int) := by omega
    have a1 : (0 : Int) ≤ (q : Int) := by omega
    rw [show k + (d + 1) + 1 = k + d + 1 + 1 by omega, run_succ]
    simp only [step28, a0, a1, decide_true, cond_true, beq_int, w64_up (show q < 9223372036854775807 by omega)]
    by_cases c : (rd67 es (q : Int)).f1 = (j : Int)
    · exact .inl ⟨q, ⟨by omega, c, hn⟩, by rw [decide_eq_true c]; rfl⟩
    · rw [decide_eq_false c, cond_false]
      exact ih (q + 1) (by omega) (fun p hp => by
        by_cases e : p = q
        · rw [e]; exact c
        · exact hn p (by omega))
theorem p28_run (ns : List S86) (hns : ns.length = 10) (h6 : ∀ i, i < 10 → (nd ns i).f8.length ≤ 6) (j : Nat) (d : Nat) : ∀ (i k : Nat), i + d = 10 → 10 * d < k → (∃ i' q, i ≤ i' ∧ i' < 10 ∧ q < (nd ns i').f8.length ∧ (rd67 (nd ns i').f8 (q : Int)).f1 = (j : Int)) →
    ∃ i' q, i' < 10 ∧ First (nd ns i').f8 j q ∧ run step28 k (J28.j2 (j : Int) ns (ns.length : Int) (i : Int)) = some ((i' : Int), nmAt (nd ns i').f8 q) := by
  induction d with
  | zero =>
    rintro i k hi hk ⟨i', q, h1, h2, _⟩
    omega
  | succ d ih =>
    rintro i k hi hk ⟨i', q, h1, h2, h3, h4⟩
    have h6i := h6 i (by omega)
    obtain ⟨k, rfl⟩ : ∃ m, k = m + (nd ns i).f8.length + 1 + 1 := ⟨k - (nd ns i).f8.length - 2, by omega⟩
    have a0 : (i : Int) < (ns.length : Int) := by omega
    have a1 : (0 : Int) ≤ (i : Int) := by omega
    have eq0 : rd49 ns (i : Int) = nd ns i := rfl
    have st : run step28 (k + (nd ns i).f8.length + 1 + 1) (J28.j2 (j : Int) ns (ns.length : Int) (i : Int)) = run step28 (k + (nd ns i).f8.length + 1) (J28.j5 (j : Int) (i : Int) ns (ns.length : Int) (i : Int) (nd ns i).f8 ((nd ns i).f8.length : Int) ((0 : Nat) : Int)) := by
      rw [run_succ]
      simp only [step28, a0, a1, decide_true, cond_true, eq0]
      rfl
    rw [st]
    rcases p28_in ns i j (nd ns i).f8 (by omega) k (nd ns i).f8.length 0 (by omega) (fun p hp => by omega) with ⟨r, hr, e⟩ | ⟨hn, e⟩
    · exact ⟨i, r, by omega, hr, e⟩
    · rw [e, w64_up (by omega)]
      refine ih (i + 1) k (by omega) (by omega) ⟨i', q, ?_, h2, h3, h4⟩
      by_cases c : i' = i
      · subst c; exact absurd h4 (hn q h3)
      · omega
theorem p24_in (f j : Int) (x3 x4 : Int) (ns : List S86) (hns : ns.length = 10) (h6 : ∀ i, i < 10 → (nd ns i).f8.length ≤ 6) (i : Nat) (hi : i < 10) (jn : Nat) (hj : j = (jn : Int)) (k d : Nat) : ∀ q, q + d = (nd ns i).f8.length → (∀ p, p < q → (rd67 (nd ns i).f8 (p : Int)).f1 ≠ (jn : Int)) →
    ((∃ q, q < (nd ns i).f8.length ∧ (rd67 (nd ns i).f8 (q : Int)).f1 = (jn : Int)) ∧ run step24 (k + d + 1) (J24.j10 (i : Int) (q : Int) f j x3 x4 ns) = some ⟨f, (i : Int)⟩) ∨
    ((∀ p, p < (nd ns i).f8.length → (rd67 (nd ns i).f8 (p : Int)).f1 ≠ (jn : Int)) ∧ run step24 (k + d + 1) (J24.j10 (i : Int) (q : Int) f j x3 x4 ns) = run step24 k (J24.j7 ((i + 1 : Nat) : Int) f j x3 x4 ns)) := by
  have h6i := h6 i hi
  have a2 : (i : Int) < (ns.length : Int) := by omega
  have a3 : (0 : Int) ≤ (i : Int) := by omega
  have eq0 : rd49 ns (i : Int) = nd ns i := rfl
  subst hj
  induction d with
  | zero =>
    intro q hq hn
    have a0 : ¬ (q : Int) < ((nd ns i).f8.length : Int) := by omega
    refine .inr ⟨fun p hp => hn p (by omega), ?_⟩
    rw [run_succ]
    simp only [step24, a0, a2, a3, eq0, decide_true, cond_true, decide_false, cond_false, w64_up (show i < 9223372036854775807 by omega)]
  | succ d ih =>
    intro q hq hn
    have a0 : (q : Int) < ((nd ns i).f8.length : Int) := by omega
    have a1 : (0 : Int) ≤ (q : Int) := by omega
    rw [show k + (d + 1) + 1 = k + d + 1 + 1 by omega, run_succ]
    simp only [step24, a0, a1, a2, a3, eq0, decide_true, cond_true, beq_int, w64_up (show q < 9223372036854775807 by omega)]
    by_cases c : (rd67 (nd ns i).f8 (q : Int)).f1 = (jn : Int)
    · exact .inl ⟨⟨q, by omega, c⟩, by rw [decide_eq_true c]; rfl⟩
    · rw [decide_eq_false c, cond_false]
      exact ih (q + 1) (by omega) (fun p hp => by
        by_cases e : p = q
        · rw [e]; exact c
        · exact hn p (by omega))
theorem p24_run (f : Int) (x3 x4 : Int) (ns : List S86) (hns : ns.length = 10) (h6 : ∀ i, i < 10 → (nd ns i).f8.length ≤ 6) (j : Nat) (d : Nat) : ∀ (i k : Nat), i + d = 10 → 10 * d < k → (∃ i' q, i ≤ i' ∧ i' < 10 ∧ q < (nd ns i').f8.length ∧ (rd67 (nd ns i').f8 (q : Int)).f1 = (j : Int)) →
    ∃ i', i' < 10 ∧ (∃ q, q < (nd ns i').f8.length ∧ (rd67 (nd ns i').f8 (q : Int)).f1 = (j : Int)) ∧ run step24 k (J24.j7 (i : Int) f (j : Int) x3 x4 ns) = some ⟨f, (i' : Int)⟩ := by
  induction d with
  | zero =>
    rintro i k hi hk ⟨i', q, h1, h2, _⟩
    omega
  | succ d ih =>
    rintro i k hi hk ⟨i', q, h1, h2, h3, h4⟩
    have h6i := h6 i (by omega)
    obtain ⟨k, rfl⟩ : ∃ m, k = m + (nd ns i).f8.length + 1 + 1 := ⟨k - (nd ns i).f8.length - 2, by omega⟩
    have a0 : (i : Int) < (ns.length : Int) := by omega
    have st : run step24 (k + (nd ns i).f8.length + 1 + 1) (J24.j7 (i : Int) f (j : Int) x3 x4 ns) = run step24 (k + (nd ns i).f8.length + 1) (J24.j10 (i : Int) ((0 : Nat) : Int) f (j : Int) x3 x4 ns) := by
      rw [run_succ]
      simp only [step24, a0, decide_true, cond_true]
      rfl
    rw [st]
    rcases p24_in f j x3 x4 ns hns h6 i (by omega) j rfl k (nd ns i).f8.length 0 (by omega) (fun p hp => by omega) with ⟨hr, e⟩ | ⟨hn, e⟩
    · exact ⟨i, by omega, hr, e⟩
    · rw [e]
      refine ih (i + 1) k (by omega) (by omega) ⟨i', q, ?_, h2, h3, h4⟩
      by_cases c : i' = i
      · subst c; exact absurd h4 (hn q h3)
      · omega
theorem p25_run (ns : List S86) (hns : ns.length = 10) (i : Nat) (hi : i < 10) (h6 : (nd ns i).f8.length ≤ 6) (j : Nat) (d : Nat) : ∀ (q k : Nat), q + d = (nd ns i).f8.length → d < k → (∀ p, p < q → (rd67 (nd ns i).f8 (p : Int)).f1 ≠ (j : Int)) → (∃ p, p < (nd ns i).f8.length ∧ (rd67 (nd ns i).f8 (p : Int)).f1 = (j : Int)) →
    ∃ r, First (nd ns i).f8 j r ∧ run step25 k (J25.j2 (i : Int) (j : Int) (q : Int) ns) = some (nmAt (nd ns i).f8 r) := by
  have a2 : (i : Int) < (ns.length : Int) := by omega
  have a3 : (0 : Int) ≤ (i : Int) := by omega
  have eq0 : rd49 ns (i : Int) = nd ns i := rfl
  induction d with
  | zero =>
    rintro q k hq hk hn ⟨p, hp, e⟩
    exact absurd e (hn p (by omega))
  | succ d ih =>
    rintro q k hq hk hn he
    obtain ⟨k, rfl⟩ : ∃ m, k = m + 1 := ⟨k - 1, by omega⟩
    have a0 : (q : Int) < ((nd ns i).f8.length : Int) := by omega
    have a1 : (0 : Int) ≤ (q : Int) := by omega
    rw [run_succ]
    simp only [step25, a0, a1, a2, a3, eq0, decide_true, cond_true, beq_int, w64_up (show q < 9223372036854775807 by omega)]
    by_cases c : (rd67 (nd ns i).f8 (q : Int)).f1 = (j : Int)
    · exact ⟨q, ⟨by omega, c, hn⟩, by rw [decide_eq_true c]; rfl⟩
    · rw [decide_eq_false c, cond_false]
      exact ih (q + 1) k (by omega) (by omega) (fun p hp => by
        by_cases e : p = q
        · rw [e]; exact c
        · exact hn p (by omega)) he
/-- One step up, told thrice alike. -/
theorem step_up {ns : List S86} (T : Tree ns) {j k' : Nat} (hj : j < 10) (hF : kF ns j = true) (h0 : 0 < j) (hU : GUp (kE ns) (k' + 1) j) {K : Nat} (hK : 200 ≤ K) : ∃ i s, i < 10 ∧ kF ns i = true ∧ GUp (kE ns) k' i ∧ s.size ≤ 3 ∧ f28 K (⟨ns⟩, (j : Int)) = some ((i : Int), s) ∧
    (∀ f x3 x4 k, 101 ≤ k → run step24 k (J24.j7 0 f (j : Int) x3 x4 ns) = some ⟨f, (i : Int)⟩) ∧ f25 K (⟨ns⟩, (i : Int), (j : Int)) = some s := by
  have hN := names_S T.ok
  cases hU with
  | @step i _ _ hm hu =>
    have hi := kE_in T.len hm
    obtain ⟨q, hq, e⟩ := (kE_iff hN hi).1 hm
    have uq : ∀ i', i' < 10 → (∃ q, q < (nd ns i').f8.length ∧ (rd67 (nd ns i').f8 (q : Int)).f1 = (j : Int)) → i' = i := fun i' h1 h2 => gUniq (kE ns) 10 (T.one j hj hF h0) h1 hi ((kE_iff hN h1).2 h2) hm
    obtain ⟨i1, q1, a1, a2, a3⟩ := p28_run ns T.len hN.six j 10 0 K rfl (by omega) ⟨i, q, Nat.zero_le _, hi, hq, e⟩
    have := uq i1 a1 ⟨q1, a2.1, a2.2.1⟩
    subst this
    obtain ⟨q2, b1, b2⟩ := p25_run ns T.len i1 a1 (hN.six i1 a1) j (nd ns i1).f8.length 0 K (by omega) (by have := hN.six i1 a1; omega) (fun p hp => by omega) ⟨q, hq, e⟩
    have := first_uniq a2 b1
    subst this
    have sz : (nmAt (nd ns i1).f8 q1).size ≤ 3 := by
      rcases nodeS_iff.1 (T.ok i1 a1) with ⟨_, b⟩ | ⟨_, _, _, _, b⟩
      · rw [plain_len b] at hq; cases hq
      · have := b q1 a2.1
        unfold entS entC nmFine at this
        simp only [Bool.and_eq_true, decide_eq_true_eq] at this
        have := this.1.1.1.2
        unfold nmAt
        omega
    refine ⟨i1, _, a1, kE_two T.len hN hm, hu, sz, a3, fun f x3 x4 k hk => ?_, b2⟩
    obtain ⟨i2, c1, c2, c3⟩ := p24_run f x3 x4 ns T.len hN.six j 10 0 k rfl (by omega) ⟨i1, q, Nat.zero_le _, hi, hq, e⟩
    rw [uq i2 c1 c2] at c3
    exact c3
end Go.Sx
