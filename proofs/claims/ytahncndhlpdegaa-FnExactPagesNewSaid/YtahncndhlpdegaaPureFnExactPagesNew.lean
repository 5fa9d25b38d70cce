/- The program's PagesNew and the reference's answer alike at every number, and nothing is shared. -/
import Derived.Test.YtahncndhlpdegaaBdFnExactPagesNew
import Derived.WideShapes
import Derived.IntWalk
import Derived.OpenShut
namespace Go.Proofs.Ytahncndhlpdegaa.Pure
open Go.RowKit Go.Proofs.Ytahncndhlpdegaa.PFnExactPagesNew Go.Proofs.YtahncndhlpdegaaW.PrintWords Go.Proofs.YtahncndhlpdegaaW.PrintLast
theorem new_all : ∀ n : Fin 13, laws_FnExactPagesNew.f 30 (n.val : Int) = some true := by decide +kernel

theorem FnExactPagesNew : BdFnExactPagesNew.Pure := by
  intro n _
  refine ⟨30, ?_⟩
  by_cases h : 0 ≤ n ∧ n ≤ 12
  · have := new_all ⟨n.toNat, by omega⟩
    rw [show (((⟨n.toNat, by omega⟩ : Fin 13).val : Nat) : Int) = n by simp; omega] at this
    exact this
  · have e1 : impl_PagesNew.f n = some ([], [], false) := by
      unfold impl_PagesNew.f impl_in.f
      by_cases h1 : n ≥ 1
      · have : ¬ n ≤ 12 := by omega
        simp [h1, this]
      · simp [h1]
    have e2 : spec_PagesNew.f n = some ([], [], false) := by
      unfold spec_PagesNew.f spec_l6In.f
      by_cases h1 : n ≥ 1
      · have : ¬ n ≤ 12 := by omega
        simp [h1, this]
      · simp [h1]
    have hz := new_all 0
    have e3 : impl_PagesNew.f 0 = some ([], [], false) := by decide +kernel
    have e4 : spec_PagesNew.f 0 = some ([], [], false) := by decide +kernel
    have z : (((0 : Fin 13).val : Nat) : Int) = 0 := rfl
    rw [z] at hz
    unfold laws_FnExactPagesNew.f at hz ⊢
    rw [e3, e4] at hz
    rw [e1, e2]
    simp only [Option.bind_some] at hz ⊢
    rw [laws_FnExactPagesNew.j0] at hz ⊢
    rw [laws_FnExactPagesNew.j0] at hz ⊢
    rw [e3] at hz
    rw [e1]
    exact hz

end Go.Proofs.Ytahncndhlpdegaa.Pure
