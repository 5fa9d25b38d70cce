/- The plain law FnPathSteps, over what its functions compute: a part. No further condition. -/
import Derived.Test.YtjjblclmpjaegaaDoorSxPFnPathStepsa
set_option linter.unusedVariables false
set_option linter.unusedSimpArgs false
namespace Go.Sx
open Go.RowKit Go.Lib
set_option linter.unusedVariables false
set_option linter.unusedSimpArgs false
abbrev dotdot : ByteArray := ⟨#[46, 46]⟩
def okP (p : ByteArray) : Bool := (p.toList == dotdot.toList) || nmFine p
abbrev RP := Bool × (List ByteArray) × Bool × Unit
abbrev badP : Option RP := some (false, (([] : List ByteArray), (false, ())))
theorem piece {g : ByteArray → Option Bool} (s : ByteArray) (hs : s.size ≤ 1048576) (hg : ∀ p : ByteArray, p.size ≤ s.size → g p = some (nmFine p)) (x1 : Bool) (a i : Nat) (ha : a ≤ i) (hi : i ≤ s.size) (out : List ByteArray) (ho : out.length ≤ 6) (k : Nat) :
    run (step5 g) (k + 3) (J5.j10 s x1 a i out) = cond (okP (s.extract a i) && decide (out.length < 6)) (run (step5 g) k (J5.j7 s x1 ((i + 1 : Nat) : Int) ((i + 1 : Nat) : Int) (out ++ [s.extract a i]))) badP := by
  have h0 : (0 : Int) ≤ (i : Int) := by omega
  have h1 : (i : Int) ≤ ((s.size : Nat) : Int) := by omega
  have h2 : (0 : Int) ≤ (a : Int) := by omega
  have h3 : (a : Int) ≤ (i : Int) := by omega
  have h4 : ((a : Int)).toNat = a := by omega
  have h5 : ((i : Int)).toNat = i := by omega
  rw [run_succ]
  simp only [step5, h0, h1, h2, h3, decide_true, cond_true, h4, h5]
  have hp : (s.extract a i).size ≤ s.size := by simp only [ByteArray.size_extract]; omega
  generalize s.extract a i = p at hp
  rw [hg p hp]
  unfold okP
  have h6 : decide ((out.length : Int) ≥ 6) = !decide (out.length < 6) := by
    by_cases c : out.length < 6
    · simp [c]; omega
    · simp [c]; omega
  have next : decide (out.length < 6) = true → run (step5 g) (k + 2) (J5.j13 s x1 i p out) = run (step5 g) k (J5.j7 s x1 ((i + 1 : Nat) : Int) ((i + 1 : Nat) : Int) (out ++ [p])) := by
    intro c
    have c' := of_decide_eq_true c
    have h7 : (out.length + [p].length) * 16 ≤ 140737488355328 := by simp only [List.length_singleton]; omega
    rw [run_succ]
    simp only [step5, h7, decide_true, cond_true]
    rw [run_succ]
    simp only [step5]
    rw [w64_id (by omega) (by omega)]
    rfl
  rw [h6]
  cases (p.toList == dotdot.toList) <;> cases nmFine p <;> cases hd : decide (out.length < 6) <;> simp [next, hd]
theorem spec_loop {g : ByteArray → Option Bool} (s : ByteArray) (hs : s.size ≤ 1048576) (hn : (!(s.toList == ((⟨#[]⟩ : ByteArray)).toList)) = true) (hg : ∀ p : ByteArray, p.size ≤ s.size → g p = some (nmFine p)) (x1 : Bool) : ∀ (d a i : Nat) (out : List ByteArray) (k : Nat), i + d = s.size → a ≤ i → out.length ≤ 6 → 6 * d + 8 ≤ k →
    run (step5 g) k (J5.j7 s x1 a i out) = cond ((pcs s d a i).all okP && decide (out.length + (pcs s d a i).length ≤ 6)) (some (x1, (out ++ pcs s d a i, (true, ())))) badP
  | 0, a, i, out, k, h, ha, ho, hk => by
    obtain ⟨k, rfl⟩ : ∃ m, k = m + 1 + 3 + 1 + 1 := ⟨k - 6, by omega⟩
    have h0 : (i : Int) ≤ ((s.size : Nat) : Int) := by omega
    have h1 : ¬ (i : Int) < ((s.size : Nat) : Int) := by omega
    rw [run_succ]
    simp only [step5, h0, decide_true, cond_true, hn]
    rw [run_succ]
    simp only [step5, h1, decide_false, cond_false]
    rw [piece s hs hg x1 a i ha (by omega) out ho, run_succ]
    have h2 : ¬ ((i + 1 : Nat) : Int) ≤ ((s.size : Nat) : Int) := by omega
    simp only [step5, h2, decide_false, cond_false, pcs, List.all_cons, List.all_nil, Bool.and_true, List.length_singleton]
    rw [show decide (out.length < 6) = decide (out.length + 1 ≤ 6) from rfl]
    rfl
  | d + 1, a, i, out, k, h, ha, ho, hk => by
    obtain ⟨k, rfl⟩ : ∃ m, k = m + 3 + 1 + 1 := ⟨k - 5, by omega⟩
    have h0 : (i : Int) ≤ ((s.size : Nat) : Int) := by omega
    have h1 : (i : Int) < ((s.size : Nat) : Int) := by omega
    have h2 : (0 : Int) ≤ (i : Int) := by omega
    rw [run_succ]
    simp only [step5, h0, decide_true, cond_true, hn]
    rw [run_succ]
    simp only [step5, h1, h2, decide_true, cond_true, bt_get (show i < s.size by omega)]
    by_cases c : (s.get! i).toNat = 47
    · have c1 : (((s.get! i).toNat : Int) != 47) = false := by rw [c]; rfl
      rw [c1, cond_false, piece s hs hg x1 a i ha (by omega) out ho]
      unfold pcs
      rw [if_pos c]
      by_cases h6 : out.length < 6
      · rw [spec_loop s hs hn hg x1 d (i + 1) (i + 1) (out ++ [s.extract a i]) k (by omega) (Nat.le_refl _) (by simp; omega) (by omega)]
        simp only [List.all_cons, List.length_append, List.length_singleton, List.length_cons, h6, decide_true, Bool.and_true, List.append_assoc, List.singleton_append]
        rw [show out.length + (([] : List ByteArray).length + 1) + (pcs s d (i + 1) (i + 1)).length = out.length + ((pcs s d (i + 1) (i + 1)).length + 1) by simp only [List.length_nil]; omega]
        cases okP (s.extract a i) <;> rfl
      · have hl : (pcs s d (i + 1) (i + 1)).length ≠ 0 := fun e => pcs_ne s d (i + 1) (i + 1) (List.eq_nil_of_length_eq_zero e)
        simp only [h6, decide_false, Bool.and_false, cond_false, List.length_cons]
        rw [show decide (out.length + ((pcs s d (i + 1) (i + 1)).length + 1) ≤ 6) = false from decide_eq_false (by omega)]
        simp
    · have c1 : (((s.get! i).toNat : Int) != 47) = true := by
        rw [bne_iff_ne]
        omega
      rw [c1, cond_true, show k + 3 = (k + 2) + 1 from rfl, run_succ]
      simp only [step5]
      rw [w64_id (by omega) (by omega)]
      have := spec_loop s hs hn hg x1 d a (i + 1) out (k + 2) (by omega) (by omega) ho (by omega)
      rw [show ((i : Int) + 1) = ((i + 1 : Nat) : Int) by omega, this]
      unfold pcs
      rw [if_neg c]
      cases d <;> rfl
end Go.Sx
