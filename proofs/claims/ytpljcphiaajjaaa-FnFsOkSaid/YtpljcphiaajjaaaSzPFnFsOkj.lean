/- The plain law FnFsOk, over what its functions compute: a part. No further condition. -/
import Derived.Test.YtpljcphiaajjaaaSzPFnFsOki
set_option linter.unusedVariables false
set_option linter.unusedSimpArgs false
namespace Go.Sx
open Go.RowKit Go.Lib
set_option linter.unusedVariables false
set_option linter.unusedSimpArgs false

theorem fs_true {ns : List S34} (hf : ∀ i, i < 10 → FitN (nd ns i)) {k : Nat} (hk : 80000000 ≤ k) (h : f16 k ⟨ns⟩ = some true) : ns.length = 10 ∧ (∀ i, i < 10 → nodeS (nd ns i) = true) ∧ ∃ M, GInv (kE ns) (kF ns) 10 [] M ∧ ∀ j, j < 10 → condS ns (fX ns) (mrk M) j = true := by
  by_cases hns : ns.length = 10
  · obtain ⟨b, s1, s2, _⟩ := spec_sum ns hns hf hk
    rw [h] at s1
    obtain rfl := Option.some.inj s1
    exact ⟨hns, (s2 rfl).1, (s2 rfl).2.2⟩
  · exfalso
    have : f16 k ⟨ns⟩ = some false := by
      show cond (_ != _) _ _ = _
      rw [bne_int, decide_eq_false (show ¬ ((ns.length : Nat) : Int) = 10 by omega)]; rfl
    rw [this] at h
    cases h
theorem fit_nd {ns : List S34} (hf : ∀ z ∈ ns, FitN z) : ∀ i, FitN (nd ns i) := by
  intro i
  unfold nd rd34
  rw [List.getD_eq_getElem?_getD]
  cases h : ns[((i : Int)).toNat]? with
  | none => exact ⟨Nat.zero_le _, fun e he => by cases he⟩
  | some z => exact hf z (List.mem_of_getElem? h)
theorem nodeS_len {z : S34} (h : nodeS z = true) : z.f8.length ≤ 6 := by
  rcases nodeS_iff.1 h with ⟨_, h2⟩ | ⟨h0, hA, _, hB, _⟩
  · rw [plain_len h2]; decide
  · unfold nodeB at hB
    split at hB
    · simp only [Bool.and_eq_true, decide_eq_true_eq] at hB; omega
    · simp only [Bool.and_eq_true, decide_eq_true_eq] at hB; omega
theorem plain_links {z : S34} (h : plainB z = true) : z.f4 = 0 := by
  unfold plainB start66 at h
  revert h
  dsimp only
  by_cases c : z.f4 = 0
  · intro _; exact c
  · have : (z.f4 == 0) = false := by rw [beq_eq_false_iff_ne]; exact c
    rw [this]
    cases (z.f0 == 0) <;> cases (z.f1 == 0) <;> cases (z.f2 == 0) <;> cases (z.f3 == 0) <;> simp
/-- Links are what is counted. -/
theorem links_cnt {ns : List S34} (hN : ∀ i, i < 10 → nodeS (nd ns i) = true) {M : List Nat} (hc : ∀ j, j < 10 → condS ns (fX ns) (mrk M) j = true) (j : Nat) (hj : j < 10) : (nd ns j).f4 = ((gCnt (kE ns) 10 j : Nat) : Int) := by
  have h1 := fX_rd (names_S hN) j hj
  have h2 := hc j hj
  unfold condS at h2
  rw [h1] at h2
  split at h2
  · rename_i c
    rcases nodeS_iff.1 (hN j hj) with ⟨_, h3⟩ | ⟨h3, _⟩
    · rw [plain_links h3]
      simp only [Bool.not_eq_true', decide_eq_false_iff_not] at h2
      omega
    · exact absurd c h3
  · simp only [Bool.and_eq_true, decide_eq_true_eq] at h2
    exact h2.1
def cnt (ns : List S34) (i k e : Nat) : Nat := ((List.range k).flatMap (kE ns) ++ (kE ns k).take e).count i
theorem cnt_le {ns : List S34} (hl : ∀ i, i < 10 → (nd ns i).f8.length ≤ 6) (i : Nat) : ∀ k e, k < 10 → cnt ns i k e ≤ 6 * k + 6 := by
  have h : ∀ k, k ≤ 10 → ((List.range k).flatMap (kE ns)).length ≤ 6 * k := by
    intro k
    induction k with
    | zero => intro _; simp
    | succ k ih =>
      intro hk
      rw [List.range_succ, List.flatMap_append, List.length_append]
      have h1 := ih (by omega)
      have h2 : ((List.flatMap (kE ns) [k])).length = (nd ns k).f8.length := by simp [kE]
      have := hl k (by omega)
      omega
  intro k e hk
  refine Nat.le_trans List.count_le_length ?_
  rw [List.length_append, List.length_take]
  have h1 := h k (by omega)
  have h2 : (kE ns k).length = (nd ns k).f8.length := by simp [kE]
  have := hl k hk
  omega
theorem cnt_step {ns : List S34} (i k e : Nat) (he : e < (nd ns k).f8.length) : cnt ns i k (e + 1) = cnt ns i k e + if ((nd ns k).f8[e]).f1.toNat = i then 1 else 0 := by
  unfold cnt
  have h : e < (kE ns k).length := by simpa [kE] using he
  rw [List.take_succ_eq_append_getElem h, ← List.append_assoc, List.count_append, List.count_singleton]
  congr 1
  have : (kE ns k)[e] = ((nd ns k).f8[e]).f1.toNat := by simp [kE]
  rw [this]
  by_cases c : ((nd ns k).f8[e]).f1.toNat = i <;> simp [c]
theorem cnt_next {ns : List S34} (i k e : Nat) (he : e = (nd ns k).f8.length) : cnt ns i k e = cnt ns i (k + 1) 0 := by
  unfold cnt
  rw [List.take_of_length_le (by simp [kE]; omega), List.take_zero, List.append_nil, List.range_succ, List.flatMap_append]
  simp
theorem cnt_end {ns : List S34} (i : Nat) : cnt ns i 10 0 = gCnt (kE ns) 10 i := by
  unfold cnt gCnt
  rw [List.take_zero, List.append_nil]
section
variable {g14 : S27 → Option Bool} {g16 : S27 → Option Bool} {g21 : List Int → Option S27}
theorem c17 {ns : List S34} (hns : ns.length = 10) (hl : ∀ i, i < 10 → (nd ns i).f8.length ≤ 6) (he : ∀ i, i < 10 → ∀ e ∈ (nd ns i).f8, 0 ≤ e.f1) (i k : Nat) (hk : k < 10) (M : Nat) (R : Option Bool)
    (hT : ∀ m, M ≤ m → run (step6 g14 g16 g21) m (J6.j14 (i : Int) ((cnt ns i (k + 1) 0 : Nat) : Int) ((k + 1 : Nat) : Int) ns) = R) : ∀ (d e m : Nat), e + d = (nd ns k).f8.length → M + 2 * d + 1 ≤ m → run (step6 g14 g16 g21) m (J6.j17 (i : Int) ((cnt ns i k e : Nat) : Int) (k : Int) (e : Int) ns) = R
  | 0, e, 0, _, h => by omega
  | d + 1, e, 0, _, h => by omega
  | d + 1, e, 1, _, h => by omega
  | 0, e, m + 1, h, hm => by
    have a1 : (0 : Int) ≤ (k : Int) := by omega
    have a2 : (k : Int) < ((ns.length : Nat) : Int) := by omega
    have a3 : ¬ ((e : Int) < (((nd ns k).f8.length : Nat) : Int)) := by omega
    have := hl k hk
    rw [run_succ]
    simp only [step6, show rd34 ns (k : Int) = nd ns k from rfl, a1, a2, a3, decide_true, decide_false, cond_true, cond_false]
    rw [wsucc (n := 10) hk (by omega), cnt_next i k e (by omega)]
    exact hT m (by omega)
  | d + 1, e, m + 2, h, hm => by
    have hj : e < (nd ns k).f8.length := by omega
    have a1 : (0 : Int) ≤ (k : Int) := by omega
    have a2 : (k : Int) < ((ns.length : Nat) : Int) := by omega
    have a3 : ((e : Int) < (((nd ns k).f8.length : Nat) : Int)) := by omega
    have a4 : (0 : Int) ≤ (e : Int) := by omega
    have l6 := hl k hk
    have ih := c17 hns hl he i k hk M R hT d (e + 1) m (by omega) (by omega)
    have cl := cnt_le hl i k e hk
    have h0 := he k hk _ (List.getElem_mem hj)
    rw [cnt_step i k e hj] at ih
    rw [run_succ]
    simp only [step6, show rd34 ns (k : Int) = nd ns k from rfl, a1, a2, a3, a4, decide_true, decide_false, cond_true, cond_false, rd47_at hj]
    by_cases c : (nd ns k).f8[e].f1.toNat = i
    · have c2 : ((nd ns k).f8[e].f1 == (i : Int)) = true := by rw [beq_iff_eq]; omega
      rw [if_pos c] at ih
      rw [c2, cond_true, run_succ]
      simp only [step6]
      rw [wsucc (n := (nd ns k).f8.length) hj (by omega), w64_id (n := ((cnt ns i k e : Nat) : Int) + 1) (by omega) (by omega)]
      exact ih
    · have c2 : ((nd ns k).f8[e].f1 == (i : Int)) = false := by rw [beq_eq_false_iff_ne]; omega
      rw [if_neg c] at ih
      rw [c2, cond_false, run_succ]
      simp only [step6]
      rw [wsucc (n := (nd ns k).f8.length) hj (by omega)]
      exact ih
theorem c14 {ns : List S34} (hns : ns.length = 10) (hl : ∀ i, i < 10 → (nd ns i).f8.length ≤ 6) (he : ∀ i, i < 10 → ∀ e ∈ (nd ns i).f8, 0 ≤ e.f1) (i : Nat) (hi : i < 10) (hc : (nd ns i).f4 = ((cnt ns i 10 0 : Nat) : Int)) (M : Nat) (R : Option Bool)
    (hT : ∀ m, M ≤ m → run (step6 g14 g16 g21) m (J6.j10 ((i + 1 : Nat) : Int) ns) = R) : ∀ (d k m : Nat), k + d = 10 → M + 14 * d + 1 ≤ m → run (step6 g14 g16 g21) m (J6.j14 (i : Int) ((cnt ns i k 0 : Nat) : Int) (k : Int) ns) = R
  | d, k, 0, _, h => by omega
  | 0, k, m + 1, h, hm => by
    obtain rfl : k = 10 := by omega
    have a1 : (0 : Int) ≤ (i : Int) := by omega
    have a2 : (i : Int) < ((ns.length : Nat) : Int) := by omega
    have a3 : ¬ ((((10 : Nat) : Int)) < ((ns.length : Nat) : Int)) := by omega
    rw [run_succ]
    simp only [step6, show rd34 ns (i : Int) = nd ns i from rfl, a1, a2, a3, decide_true, decide_false, cond_true, cond_false, hc]
    rw [wsucc (n := 10) hi (by omega)]
    simp only [bne_self_eq_false, cond_false]
    exact hT m (by omega)
  | d + 1, k, m + 1, h, hm => by
    have a3 : ((k : Int) < ((ns.length : Nat) : Int)) := by omega
    rw [run_succ]
    simp only [step6, a3, decide_true, cond_true]
    have := hl k (by omega)
    exact c17 hns hl he i k (by omega) (M + 14 * d + 1) R (fun m hm => c14 hns hl he i hi hc M R hT d (k + 1) m (by omega) hm) (nd ns k).f8.length 0 m (by omega) (by omega)
theorem c10 {ns : List S34} (hns : ns.length = 10) (hl : ∀ i, i < 10 → (nd ns i).f8.length ≤ 6) (he : ∀ i, i < 10 → ∀ e ∈ (nd ns i).f8, 0 ≤ e.f1) (hc : ∀ i, i < 10 → (nd ns i).f4 = ((cnt ns i 10 0 : Nat) : Int)) : ∀ (d i m : Nat), i + d = 10 → 200 * d + 2 ≤ m → run (step6 g14 g16 g21) m (J6.j10 (i : Int) ns) = some true
  | d, i, 0, _, h => by omega
  | 0, i, m + 1, h, hm => by
    rw [run_succ]
    simp only [step6]
    rw [decide_eq_false (by omega : ¬ ((i : Int) < ((ns.length : Nat) : Int)))]; rfl
  | d + 1, i, m + 1, h, hm => by
    rw [run_succ]
    simp only [step6]
    rw [decide_eq_true (by omega : ((i : Int) < ((ns.length : Nat) : Int))), cond_true]
    exact c14 hns hl he i (by omega) (hc i (by omega)) (200 * d + 2) _ (fun m hm => c10 hns hl he hc d (i + 1) m (by omega) hm) 10 0 m rfl (by omega)
end
end Go.Sx
