/- The plain law FnFsLook, over what its functions compute: a part. No further condition. -/
import Derived.Test.YtpljcphiaajjaaaSzPFnFsLookg
import Derived.Test.YtpljcphiaajjaaaSzPFnFsLookm
import Derived.Test.YtpljcphiaajjaaaSzBFnFsLook
set_option linter.unusedVariables false
set_option linter.unusedSimpArgs false
namespace Go.Sx
open Go.RowKit Go.Lib
set_option linter.unusedVariables false
set_option linter.unusedSimpArgs false
def hasB (ns : List S34) (a : Int) : Bool := decide (0 ≤ a ∧ a ≤ 9) && !decide ((rd34 ns a).f0 = 0)
theorem has46 (ns : List S34) (hns : ns.length = 10) (a : Int) (k : Nat) : f46 k (⟨ns⟩, a) = some (hasB ns a) := by
  have e10 : (ns.length : Int) = 10 := by omega
  have w : w64 ((10 : Int) - 1) = 9 := w64_id (by omega) (by omega)
  show Option.bind (f33 k (a, 0, w64 ((ns.length : Int) - 1))) (fun r0 => cond r0 (cond (decide (0 ≤ a)) (cond (decide (a < (ns.length : Int))) (some ((rd34 ns a).f0 != 0)) none) none) (some false)) = _
  rw [e10, w, f33_eq, in_eq, Option.bind_some]
  unfold hasB
  by_cases c : 0 ≤ a ∧ a ≤ 9
  · have c1 : a < 10 := by omega
    rw [decide_eq_true c, cond_true, decide_eq_true c.1, cond_true, decide_eq_true c1]; rfl
  · rw [decide_eq_false c]; rfl
theorem has44 (ns : List S34) (hns : ns.length = 10) (a : Int) (k : Nat) : f44 k (⟨ns⟩, a) = some (hasB ns a) := by
  have : f44 k (⟨ns⟩, a) = f46 k (⟨ns⟩, a) := rfl
  rw [this, has46 ns hns]
theorem valid_eq (ns : List S34) (x1 : S52) (a : Int) {k : Nat} (hk : 80000000 ≤ k) (b : Bool) (hb : f14 k ⟨ns⟩ = some b) (hns : b = true → ns.length = 10) (hl : x1.f2.length ≤ 1048576) : f54 k (⟨ns⟩, x1, [a]) = some (b && (credB x1 && hasB ns a)) := by
  obtain ⟨k, rfl⟩ : ∃ m, k = m + 1 + 1 + 1 + 1 := ⟨k - 4, by omega⟩
  have c1 := f60_eq x1 (k := k + 1 + 1 + 1 + 1) (by omega) (by omega)
  show start54 (f14 _) (f46 _) (f60 _) (run (step54 (f14 _) (f46 _) (f60 _)) (k + 1 + 1 + 1 + 1)) (⟨ns⟩, x1, [a]) = _
  cases b with
  | false => simp only [start54, hb, Option.bind_some, Bool.not_false, cond_true, Bool.false_and]
  | true =>
    have h46 := has46 ns (hns rfl) a (k + 1 + 1 + 1 + 1)
    simp only [start54, hb, c1, Option.bind_some, Bool.not_true, cond_false, Bool.true_and]
    cases credB x1 with
    | false => rfl
    | true =>
      have w : w64 ((0 : Int) + 1) = 1 := w64_id (by omega) (by omega)
      have p1 : (0 : Int) < 1 := by omega
      have r0 : rd3 [a] 0 = a := rfl
      have l1 : (([a].length : Nat) : Int) = 1 := rfl
      have p2 : ¬ (1 : Int) < 1 := by omega
      have i0 : (0 : Int) ≤ 0 := by omega
      simp only [run_succ, step54, l1, p1, p2, i0, r0, w, h46, decide_true, decide_false, Option.bind_some, Bool.not_true, cond_true, cond_false, Bool.true_and]
      cases hasB ns a <;> rfl
/-- What a look that finds says. -/
def Fcts (k : Nat) (z : S34) (x1 : S52) (s : ByteArray) (r : Int) : Prop := z.f0 = 2 ∧ f29 k (x1, z.f2, z.f3, z.f1, 1) = some true ∧ ∃ q, q < z.f8.length ∧ nmAt z.f8 q = s ∧ (rd47 z.f8 (q : Int)).f1 = r
theorem look_all (ns : List S34) (x1 : S52) (a : Int) (s : ByteArray) (hf : ∀ z ∈ ns, FitN z) (hl : x1.f2.length ≤ 1048576) (hs : s.size ≤ 1048576) {k : Nat} (hk : 80000000 ≤ k) : ∃ p, f24 k (⟨ns⟩, x1, a, s) = some p ∧ f26 k (⟨ns⟩, x1, a, s) = some p ∧ (p.2 = 0 → ns.length = 10 ∧ 0 ≤ a ∧ a ≤ 9 ∧ Fcts k (rd34 ns a) x1 s p.1) := by
  have hfn : ∀ i, i < 10 → FitN (nd ns i) := fun i _ => fit_nd hf i
  obtain ⟨b, hb, hb'⟩ := fs_all ns hfn hk
  have tr := fun h : b = true => fs_true hfn hk (by rw [hb', h])
  have v := valid_eq ns x1 a hk b hb (fun h => (tr h).1) hl
  have c1 := f50_eq x1 (k := k) (by omega) (by omega)
  have n1 := name_spec s (by omega) (k := k) (by omega)
  have n2 := f38_eq k s
  show ∃ p, start24 (f16 k) (f44 k) (f50 k) (f51 k) (f52 k) (⟨ns⟩, x1, a, s) = some p ∧ start26 (f38 k) (f54 k) (f55 k) (f56 k) (run (step26 (f38 k) (f54 k) (f55 k) (f56 k)) k) (⟨ns⟩, x1, a, s) = some p ∧ (p.2 = 0 → ns.length = 10 ∧ 0 ≤ a ∧ a ≤ 9 ∧ Fcts k (rd34 ns a) x1 s p.1)
  simp only [start24, start26, hb', v, Option.bind_some]
  cases b with
  | false => exact ⟨_, rfl, rfl, fun h => absurd h (by decide)⟩
  | true =>
    obtain ⟨hns, hok, _⟩ := tr rfl
    simp only [c1, has44 ns hns, Option.bind_some, Bool.not_true, cond_false, Bool.true_and]
    cases hc : credB x1 with
    | false => exact ⟨_, rfl, rfl, fun h => absurd h (by decide)⟩
    | true =>
      cases hh : hasB ns a with
      | false => exact ⟨_, rfl, rfl, fun h => absurd h (by decide)⟩
      | true =>
        simp only [n1, n2, Option.bind_some, Bool.not_true, cond_false, Bool.true_and]
        cases nmFine s with
        | false => exact ⟨_, rfl, rfl, fun h => absurd h (by decide)⟩
        | true =>
          unfold hasB at hh
          simp only [Bool.and_eq_true, decide_eq_true_eq, Bool.not_eq_true', decide_eq_false_iff_not] at hh
          obtain ⟨⟨ha0, ha1⟩, hz0⟩ := hh
          have a1 : a < (ns.length : Int) := by omega
          have ez : rd34 ns a = nd ns a.toNat := rd_nd ha0
          have hN := hok a.toNat (by omega)
          have hF := hfn a.toNat (by omega)
          rw [← ez] at hN hF
          rw [run_pos _ (by omega)]
          show ∃ p, Option.bind (start52 (f70 k) (f71 k) (⟨ns⟩, x1, a, s)) _ = some p ∧ _
          have e70 : f70 k (⟨ns⟩, x1, a, 1) = start70 (f88 k) (⟨ns⟩, x1, a, 1) := rfl
          have e88 : f88 k (⟨ns⟩, x1, a, 1) = start88 (f97 k) (⟨ns⟩, x1, a, 1) := rfl
          have e55 : f55 k (rd34 ns a, x1, 1) = start55 (f29 k) (rd34 ns a, x1, 1) := rfl
          simp only [start52, step26, e70, start70, e88, start88, ha0, a1, decide_true, cond_true, bne_int, e55, start55]
          generalize rd34 ns a = z at *
          have hlz := hF.l
          rcases nodeS_iff.1 hN with ⟨h, _⟩ | ⟨_, hA, _, _, hE⟩
          · exact absurd h hz0
          · by_cases c2 : z.f0 = 2
            · unfold nodeA at hA
              simp only [Bool.and_eq_true, decide_eq_true_eq] at hA
              obtain ⟨mb, m1, m2⟩ := may_eq x1 z.f2 z.f3 z.f1 (k := k) hc hA.2.2.1 hA.2.2.2.1 hA.2.1 (by omega) (by omega)
              simp only [c2, decide_true, Bool.not_true, cond_false, m2, Option.bind_some, show (⟨x1.f0, x1.f1, x1.f2⟩ : S52) = x1 from rfl, m1]
              cases mb with
              | false => exact ⟨_, rfl, rfl, fun h => absurd h (by decide)⟩
              | true =>
                have hS : Sorted z.f8 := sorted_of fun q hq => by
                  have := hE q hq
                  unfold entS at this
                  exact (Bool.and_eq_true_iff.1 this).1
                obtain ⟨r, fb, f1, f2⟩ := find_eq z s hS (by omega) (k := k) (by omega)
                obtain ⟨r', g1, g2⟩ := at_eq z s (by omega) (k := k) (by omega)
                have q5 : ¬ (0 : Int) ≠ 0 := by omega
                simp only [f1, g1, Option.bind_some, Bool.not_true, cond_false, decide_true]
                rcases f2 with ⟨rfl, q, hq, rfl, hq2⟩ | ⟨rfl, hq⟩
                · rcases g2 with ⟨_, g3⟩ | ⟨q', hq', rfl, hq2'⟩
                  · exact absurd hq2 (g3 q hq)
                  · have := uniq hS hq hq' hq2 hq2'
                    subst this
                    have p0 : (0 : Int) ≤ (q : Int) := by omega
                    have p1 : (q : Int) < (z.f8.length : Int) := by omega
                    have p2 : ¬ (q : Int) < 0 := by omega
                    simp only [p0, p1, p2, decide_true, decide_false, cond_true, cond_false, Bool.not_true, Option.bind_some]
                    exact ⟨_, rfl, rfl, fun _ => ⟨hns, trivial, ha1, c2, m1, q, hq, hq2, rfl⟩⟩
                · rcases g2 with ⟨rfl, _⟩ | ⟨q', hq', rfl, hq2'⟩
                  · exact ⟨_, rfl, rfl, fun h => absurd h (by decide)⟩
                  · exact absurd hq2' (hq q' hq')
            · simp only [c2, decide_false, Bool.not_false, cond_true, Option.bind_some]
              exact ⟨_, rfl, rfl, fun h => absurd h (by decide)⟩
end Go.Sx
