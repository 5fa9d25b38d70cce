/- The plain law FnFsLook, over what its functions compute: a part. No further condition. -/
import Derived.Test.YtpljcphiaajjaaaSzPFnFsLookn
set_option linter.unusedVariables false
set_option linter.unusedSimpArgs false
namespace Go.Sx
open Go.RowKit Go.Lib
set_option linter.unusedVariables false
set_option linter.unusedSimpArgs false
theorem ok28 {k : Nat} (hk : 100000 < k) (x : List Int) (hx : ∀ z ∈ x, 0 ≤ z ∧ z ≤ 255) : Okk (f28 k x) (fun r => (∀ z ∈ r.1.f0, FitN z) ∧ r.2.1.f2.length ≤ 11 ∧ r.2.2.2.size ≤ 4) := by
  have hk2 : 2000 < k := by omega
  simp only [f28, start28]
  exact .bnd (ok30 k x hx) fun r hr => .bnd (ok47 hk hr) fun f ⟨h1, h2, h3⟩ => .bnd (ok58 hk2 h3 (by omega)) fun c ⟨c1, hc⟩ => .bnd (ok48 hk2 hc (by omega)) fun i ⟨i0, i1, hi⟩ => .bnd (ok59 hk2 hi (by omega)) fun n ⟨n1, hn⟩ => .ret ⟨h1, c1, n1⟩
theorem c12 {k : Nat} {g24 g26 : S27 × S52 × Int × ByteArray → Option (Int × Int)} {g28 : (List Int) → Option (S27 × S52 × Int × ByteArray)} (z : S34) (x : S52) (s : ByteArray) (r : Int) (hl : z.f8.length ≤ 2000000) (h2 : z.f0 = 2) (h29 : f29 k (x, z.f2, z.f3, z.f1, 1) = some true) : ∀ (d i m : Nat) (b : Bool), i + d = z.f8.length → 2 * d + 1 ≤ m →
    (b = true ∨ ∃ q, i ≤ q ∧ q < z.f8.length ∧ nmAt z.f8 q = s ∧ (rd47 z.f8 (q : Int)).f1 = r) →
    run (step9 g24 g26 g28 (f29 k)) m (J9.j12 s r b (i : Int) x.f0 x.f1 x.f2 z.f0 z.f1 z.f2 z.f3 z.f4 z.f5 z.f6 z.f7 z.f8) = some true
  | d, i, 0, b, _, h, _ => by omega
  | 0, i, m + 1, b, h, hm, hb => by
    have hb : b = true := by
      rcases hb with h1 | ⟨q, h1, h3, _⟩
      · exact h1
      · omega
    rw [run_succ]
    simp only [step9]
    rw [decide_eq_false (by omega : ¬ ((i : Int) < ((z.f8.length : Nat) : Int))), cond_false, hb, cond_true, h2]
    have : f29 k ((⟨x.f0, x.f1, x.f2⟩ : S52), (z.f2, (z.f3, (z.f1, 1)))) = some true := h29
    simp only [beq_self_eq_true, cond_true, this, Option.bind_some]
  | d + 1, i, 1, b, h, hm, hb => by omega
  | d + 1, i, m + 2, b, h, hm, hb => by
    have nxt : ∀ b' : Bool, (b' = true ∨ ∃ q, i + 1 ≤ q ∧ q < z.f8.length ∧ nmAt z.f8 q = s ∧ (rd47 z.f8 (q : Int)).f1 = r) → run (step9 g24 g26 g28 (f29 k)) (m + 1) (J9.j13 s r b' (i : Int) x.f0 x.f1 x.f2 z.f0 z.f1 z.f2 z.f3 z.f4 z.f5 z.f6 z.f7 z.f8) = some true := by
      intro b' hb'
      rw [run_succ]
      simp only [step9]
      rw [wsucc (n := z.f8.length) (by omega) (by omega)]
      exact c12 z x s r hl h2 h29 d (i + 1) m b' (by omega) (by omega) hb'
    rw [run_succ]
    simp only [step9]
    have a1 : (i : Int) < ((z.f8.length : Nat) : Int) := by omega
    have a0 : (0 : Int) ≤ (i : Int) := by omega
    simp only [a0, a1, decide_true, cond_true]
    cases b with
    | true => simp only [cond_true]; exact nxt true (.inl rfl)
    | false =>
      simp only [cond_false]
      obtain ⟨q, h1, h3, h4, h5⟩ : ∃ q, i ≤ q ∧ q < z.f8.length ∧ nmAt z.f8 q = s ∧ (rd47 z.f8 (q : Int)).f1 = r := by
        rcases hb with h | h
        · cases h
        · exact h
      by_cases c : q = i
      · subst c
        have e1 : ((rd47 z.f8 (q : Int)).f0.toList == s.toList) = true := by rw [beq_iff_eq, ← h4]; rfl
        rw [e1, cond_true, h5]
        exact nxt _ (.inl (beq_self_eq_true r))
      · have hq : ∃ q, i + 1 ≤ q ∧ q < z.f8.length ∧ nmAt z.f8 q = s ∧ (rd47 z.f8 (q : Int)).f1 = r := ⟨q, by omega, h3, h4, h5⟩
        cases ((rd47 z.f8 (i : Int)).f0.toList == s.toList)
        · exact nxt _ (.inr hq)
        · exact nxt _ (.inr hq)
/-- The plain law. -/
theorem law_FnFsLook (x0 : List Int) (h0 : x0.length * 1 ≤ 140737488351232 ∧ ∀ z ∈ x0, B5 z) : ∃ k, f9 k x0 = some true := by
  obtain ⟨k, hk⟩ : ∃ k : Nat, 80000000 ≤ k := ⟨_, Nat.le_refl _⟩
  refine ⟨k, ?_⟩
  show start9 (f24 k) (f26 k) (f28 k) (f29 k) (run (step9 (f24 k) (f26 k) (f28 k) (f29 k)) k) x0 = some true
  have hx : ∀ z ∈ x0, 0 ≤ z ∧ z ≤ 255 := fun z hz => by
    have := h0.2 z hz
    unfold B5 at this
    simp [Lit.wf, IntKind.min, IntKind.max, IntKind.signed, IntKind.bits] at this
    omega
  by_cases c : ((x0.length : Nat) : Int) > 1048576
  · simp only [start9, c, decide_true, cond_true]
  · obtain ⟨⟨⟨ns⟩, x, a, s⟩, e, hf, hg, hs⟩ := ok28 (k := k) (by omega) x0 hx
    simp only at hf hg hs
    obtain ⟨⟨r, c0⟩, g1, g2, g3⟩ := look_all ns x a s hf (by omega) (by omega) hk
    simp only [start9, c, decide_false, cond_false, e, g1, g2, Option.bind_some, beq_self_eq_true, cond_true]
    obtain ⟨m, hm⟩ : ∃ m, k = m + 1 + 1 := ⟨k - 2, by omega⟩
    rw [show run (step9 (f24 k) (f26 k) (f28 k) (f29 k)) k = run (step9 (f24 k) (f26 k) (f28 k) (f29 k)) (m + 1 + 1) from by rw [← hm], run_succ]
    by_cases c1 : c0 = 0
    · subst c1
      obtain ⟨hns, a0, a9, z2, z29, q, hq, hq2, hq3⟩ := g3 rfl
      have a1 : a < ((ns.length : Nat) : Int) := by omega
      simp only [step9, beq_self_eq_true, Bool.not_true, cond_false]
      rw [run_succ]
      simp only [step9, a0, a1, decide_true, cond_true]
      have hlen : (rd34 ns a).f8.length ≤ 1048576 := by
        have := (fit_nd hf a.toNat).l
        rw [rd_nd a0]; exact this
      exact c12 (rd34 ns a) x s r (by omega) z2 z29 (rd34 ns a).f8.length 0 m false (Nat.zero_add _) (by omega) (.inr ⟨q, Nat.zero_le _, hq, hq2, hq3⟩)
    · have : (c0 == 0) = false := by rw [beq_eq_false_iff_ne]; exact c1
      simp only [step9, this, Bool.not_true, Bool.not_false, cond_true, cond_false]
end Go.Sx
