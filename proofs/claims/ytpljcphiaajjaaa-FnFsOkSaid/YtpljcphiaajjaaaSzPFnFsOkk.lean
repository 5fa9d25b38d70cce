/- The plain law FnFsOk, over what its functions compute: a part. No further condition. -/
import Derived.Test.YtpljcphiaajjaaaSzPFnFsOkj
import Derived.Test.YtpljcphiaajjaaaSzBFnFsOk
set_option linter.unusedVariables false
set_option linter.unusedSimpArgs false
namespace Go.Sx
open Go.RowKit Go.Lib
set_option linter.unusedVariables false
set_option linter.unusedSimpArgs false
/-- The plain law. -/
theorem law_FnFsOk (x0 : List Int) (h0 : x0.length * 1 ≤ 140737488351232 ∧ ∀ z ∈ x0, B5 z) : ∃ k, f6 k x0 = some true := by
  obtain ⟨k, hk⟩ : ∃ k : Nat, 80000000 ≤ k := ⟨_, Nat.le_refl _⟩
  refine ⟨k, ?_⟩
  show start6 (f14 k) (f16 k) (f21 k) (run (step6 (f14 k) (f16 k) (f21 k)) k) x0 = some true
  have hx : ∀ z ∈ x0, 0 ≤ z ∧ z ≤ 255 := fun z hz => by
    have := h0.2 z hz
    unfold B5 at this
    simp [Lit.wf, IntKind.min, IntKind.max, IntKind.signed, IntKind.bits] at this
    omega
  by_cases c : ((x0.length : Nat) : Int) > 1048576
  · simp only [start6, c, decide_true, cond_true]
  · obtain ⟨⟨ns⟩, e, hf, _⟩ := ok21 (k := k) (by omega) x0 hx
    have hfn : ∀ i, i < 10 → FitN (nd ns i) := fun i _ => fit_nd hf i
    obtain ⟨b, hb, hb'⟩ := fs_all ns hfn hk
    simp only [start6, c, decide_false, cond_false, e, hb, hb', Option.bind_some]
    cases b with
    | false => rfl
    | true =>
      obtain ⟨hns, hok, M, hG, hc⟩ := fs_true hfn hk hb'
      simp only [beq_self_eq_true, Bool.not_true, cond_false]
      obtain ⟨k, rfl⟩ : ∃ m, k = m + 1 := ⟨k - 1, by omega⟩
      rw [run_succ]
      simp only [step6]
      exact c10 hns (fun i hi => nodeS_len (hok i hi)) (fun i hi e he => by have := nodeS_ents (hok i hi) e he; omega) (fun i hi => by rw [cnt_end]; exact links_cnt hok hc i hi) 10 0 k rfl (by omega)
end Go.Sx
