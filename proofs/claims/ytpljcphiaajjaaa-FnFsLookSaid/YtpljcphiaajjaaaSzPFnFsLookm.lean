/- The plain law FnFsLook, over what its functions compute: a part. No further condition. -/
import Derived.Test.YtpljcphiaajjaaaSzPFnFsLookl
import Derived.Test.YtpljcphiaajjaaaSzFFnFsLook
set_option linter.unusedVariables false
set_option linter.unusedSimpArgs false
namespace Go.Sx
open Go.RowKit Go.Lib
set_option linter.unusedVariables false
set_option linter.unusedSimpArgs false
theorem ok48 {k : Nat} (hk : 2000 < k) {P : Int} {r : S94} (h : Rb P r) (hP : P ≤ 1000000000) : Okk (f48 k (r, ())) (fun q => -1 ≤ q.1 ∧ q.1 ≤ 10 ∧ Rb (P + 2) q.2) := by
  simp only [f48, start48]
  refine .bnd (okp hk h (by omega) (by decide)) fun q ⟨q0, q1, hq⟩ => .cnd (fun _ => ?_) fun _ => ?_
  · refine .bnd (okp hk hq (by omega) (by decide)) fun s ⟨s0, s1, hs⟩ => ?_
    (repeat (refine Okk.chk (by omega) ?_))
    have : ∀ i : Int, 0 ≤ i → i < 3 → -1 ≤ rd3 [-1, 10, 9] i ∧ rd3 [-1, 10, 9] i ≤ 10 := by
      intro i i0 i1
      obtain rfl | rfl | rfl : i = 0 ∨ i = 1 ∨ i = 2 := by omega
      all_goals decide
    obtain ⟨t0, t1⟩ := this s.1 s0 s1
    exact .ret ⟨t0, t1, hs.mono (by omega)⟩
  · refine .bnd (okp hk hq (by omega) (by decide)) fun s ⟨s0, s1, hs⟩ => ?_
    exact .ret ⟨by show -1 ≤ s.1; omega, by show s.1 ≤ 10; omega, hs.mono (by omega)⟩
end Go.Sx
