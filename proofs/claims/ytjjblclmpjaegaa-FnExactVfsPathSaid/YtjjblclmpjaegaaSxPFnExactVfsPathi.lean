/- The plain law FnExactVfsPath, over what its functions compute: a part. No further condition. -/
import Derived.Test.YtjjblclmpjaegaaSxPFnExactVfsPathh
set_option linter.unusedVariables false
set_option linter.unusedSimpArgs false
namespace Go.Sx
open Go.RowKit Go.Lib
set_option linter.unusedVariables false
set_option linter.unusedSimpArgs false
theorem path_all (x : S24) (p : S34) (hf : ∀ z ∈ x.f0, FitF z) {k : Nat} (hk : 80000000 ≤ k) : ∃ r, f10 k (x, p) = some r ∧ f12 k (x, p) = some r := by
  obtain ⟨b, v1, v2, v3⟩ := vok_all x hf hk
  show ∃ r, start10 (f6 k) (f22 k) (f23 k) (f24 k) (f25 k) (run (SS k) k) (x, p) = some r ∧ start12 (f8 k) (f26 k) (f27 k) (f28 k) (run (SI k) k) (x, p) = some r
  cases b with
  | false =>
    simp only [start10, start12, v1, v2, Option.bind_some, Bool.not_false, cond_true]
    exact ⟨_, rfl, rfl⟩
  | true =>
    obtain ⟨A, B, hx, hA, hB, hm⟩ := v3 rfl
    obtain ⟨xs, m⟩ := x
    have hx : xs = two A B := hx
    subst hx
    have hm : m = -1 ∨ (1 ≤ m ∧ m ≤ 9 ∧ (rd49 A m).f0 = 2) := hm
    have fA := (hf ⟨A⟩ (by simp [two])).z
    have fB := (hf ⟨B⟩ (by simp [two])).z
    have TA := tree_of (fun i _ => fit_nd fA i) hk hA
    have TB := tree_of (fun i _ => fit_nd fB i) hk hB
    clear hf v3
    obtain ⟨f, j⟩ := p
    have w : w64 ((2 : Int) - 1) = 1 := w64_id (by omega) (by omega)
    -- is it a place
    have pl : ∀ X : List S86, (f = 0 ∧ X = A ∨ f = 1 ∧ X = B) → f22 k (⟨two A B, m⟩, ⟨f, j⟩) = some (hasB X j) ∧ f26 k (⟨two A B, m⟩, ⟨f, j⟩) = some (hasB X j) ∧ (0 ≤ f ∧ f < 2) ∧ rd44 (two A B) f = ⟨X⟩ ∧ X.length = 10 := by
      intro X hX
      have sA := has44 A TA.len j k
      have sB := has44 B TB.len j k
      have tA := has46 A TA.len j k
      have tB := has46 B TB.len j k
      have q0 : (0 : Int) ≤ 0 ∧ (0 : Int) ≤ 1 := by omega
      have q1 : (0 : Int) ≤ 1 ∧ (1 : Int) ≤ 1 := by omega
      have q2 : (0 : Int) < 2 := by omega
      have q3 : (1 : Int) < 2 := by omega
      have q4 : (0 : Int) ≤ 0 := by omega
      have q5 : (0 : Int) ≤ 1 := by omega
      have l1 : f22 k (⟨two A B, m⟩, ⟨f, j⟩) = start22 gIn (f38 k) (⟨two A B, m⟩, ⟨f, j⟩) := by rw [← f35_eq k]; rfl
      have l2 : f26 k (⟨two A B, m⟩, ⟨f, j⟩) = start26 gIn (f39 k) (⟨two A B, m⟩, ⟨f, j⟩) := by rw [← f33_eq k]; rfl
      rw [l1, l2]
      rcases hX with ⟨rfl, rfl⟩ | ⟨rfl, rfl⟩
      · refine ⟨?_, ?_, by omega, rfl, TA.len⟩
        · simp only [start22, lenT, w, in_eq, q0, q2, q4, and_self, decide_true, cond_true, Option.bind_some, rdA, sA]
        · simp only [start26, lenT, w, in_eq, q0, q2, q4, and_self, decide_true, cond_true, Option.bind_some, rdA, tA]
      · refine ⟨?_, ?_, by omega, rfl, TB.len⟩
        · simp only [start22, lenT, w, in_eq, q1, q3, q5, and_self, decide_true, cond_true, Option.bind_some, rdB, sB]
        · simp only [start26, lenT, w, in_eq, q1, q3, q5, and_self, decide_true, cond_true, Option.bind_some, rdB, tB]
    by_cases hfr : 0 ≤ f ∧ f ≤ 1
    · obtain ⟨X, hX⟩ : ∃ X, f = 0 ∧ X = A ∨ f = 1 ∧ X = B := by
        by_cases c : f = 0
        · exact ⟨A, .inl ⟨c, rfl⟩⟩
        · exact ⟨B, .inr ⟨by omega, rfl⟩⟩
      obtain ⟨e1, e2, ⟨e3, e4⟩, e5, e6⟩ := pl X hX
      simp only [start10, start12, v1, v2, e1, e2, Option.bind_some, Bool.not_true, cond_false]
      cases hh : hasB X j with
      | false => exact ⟨_, rfl, rfl⟩
      | true =>
        unfold hasB at hh
        simp only [Bool.and_eq_true, decide_eq_true_eq, Bool.not_eq_true', decide_eq_false_iff_not] at hh
        obtain ⟨⟨j0, j9⟩, _⟩ := hh
        have jl : j < (X.length : Int) := by omega
        have e27 : f27 k (⟨two A B, m⟩, ⟨f, j⟩) = some (rd49 X j) := by
          show start27 (⟨two A B, m⟩, ⟨f, j⟩) = _
          simp only [start27, lenT, e3, e4, e5, j0, jl, decide_true, cond_true]
        simp only [e27, lenT, e3, e4, e5, j0, jl, decide_true, cond_true, Bool.not_true, cond_false, Option.bind_some, bne_int, beq_int]
        obtain ⟨jn, rfl⟩ : ∃ n : Nat, j = (n : Int) := ⟨j.toNat, by omega⟩
        by_cases c2 : (rd49 X (jn : Int)).f0 = 2
        · rw [decide_eq_true c2, Bool.not_true, cond_false, cond_false]
          have hF : kF X jn = true := by unfold kF; exact decide_eq_true c2
          have go3 : ∃ r, (f = 1 → ¬ m < 0) → run (SS k) k (J10.j3 (two A B) m f (jn : Int)) = some r ∧ run (SI k) k (J12.j3 (two A B) m f (jn : Int)) = some r := by
            by_cases cm : f = 1 ∧ m < 0
            · exact ⟨default, fun h => absurd cm.2 (h cm.1)⟩
            · obtain ⟨q, rfl⟩ : ∃ q, k = q + 1 := ⟨k - 1, by omega⟩
              have s0 : run (SS (q + 1)) (q + 1) (J10.j3 (two A B) m f (jn : Int)) = run (SS (q + 1)) q (J10.j5 ⟨#[]⟩ (two A B) m (down m ⟨f, (jn : Int)⟩).f0 (down m ⟨f, (jn : Int)⟩).f1) := by
                rw [run_succ]
                simp only [SS, step10, f23_eq, Option.bind_some]
              have s1 : run (SI (q + 1)) (q + 1) (J12.j3 (two A B) m f (jn : Int)) = run (SI (q + 1)) q (J12.j5 ⟨#[]⟩ true (two A B) m f (jn : Int)) := by
                rw [run_succ]
                simp only [SI, step12]
              rw [s0, s1]
              have sz : (⟨#[]⟩ : ByteArray).size = 0 := rfl
              rcases hX with ⟨rfl, hXA⟩ | ⟨rfl, hXA⟩
              · replace hXA := hXA.symm
                subst hXA
                obtain ⟨d, hd, hU⟩ := TA.up jn (by omega) hF
                by_cases c : m > 0 ∧ (jn : Int) = m
                · -- at the place where the other hangs
                  have hd : down m ⟨0, (jn : Int)⟩ = ⟨1, 0⟩ := by unfold down; rw [if_pos ⟨c.1, rfl, c.2⟩]
                  rw [hd]
                  obtain ⟨i, s, d', hi, hFi, hUi, hd', hs, h28, h24, h25⟩ := hang (B := B) (K := q + 1) c.2.symm (by omega) (by omega) TA hF (by omega)
                  obtain ⟨q1, hq1⟩ : ∃ q1, q = q1 + 1 + 1 + 1 := ⟨q - 3, by omega⟩
                  have t1 := ss10 (A := A) (B := B) (K := q + 1) (t := ⟨#[]⟩) c.2.symm (by omega) hi hs (by rw [sz]; omega) h24 h25 q1
                  have t2 := si0 (A := A) (B := B) (m := m) (K := q + 1) (t := ⟨#[]⟩) (b := true) (by omega) (.inl rfl) hs (by rw [sz]; omega) h28 (q1 + 1)
                  rw [← hq1] at t1
                  rw [← hq1] at t2
                  rw [t1, t2]
                  by_cases c' : m > 0 ∧ (i : Int) = m
                  · rw [decide_eq_true c', c'.2, siF c'.1]
                    exact ⟨_, fun _ => ⟨rfl, rfl⟩⟩
                  · rw [decide_eq_false c']
                    obtain ⟨r, r1, r2⟩ := walk0 (B := B) (K := q + 1) TA (by omega) d' i ((slash ++ s) ++ ⟨#[]⟩) false q1 (q1 + 1) hi hFi hUi c' (by rw [cat_size, sz]; omega) (by omega) (by omega)
                    exact ⟨r, fun _ => ⟨r1, r2⟩⟩
                · have hd : down m ⟨0, (jn : Int)⟩ = ⟨0, (jn : Int)⟩ := by unfold down; rw [if_neg (fun h => c ⟨h.1, h.2.2⟩)]
                  rw [hd]
                  obtain ⟨r, r1, r2⟩ := walk0 (B := B) (K := q + 1) TA (by omega) d jn ⟨#[]⟩ true q q (by omega) hF hU c (by rw [sz]; omega) (by omega) (by omega)
                  exact ⟨r, fun _ => ⟨r1, r2⟩⟩
              · replace hXA := hXA.symm
                subst hXA
                have m1 : 1 ≤ m ∧ m ≤ 9 ∧ (rd49 A m).f0 = 2 := by
                  rcases hm with h | h
                  · exact absurd ⟨rfl, by omega⟩ cm
                  · exact h
                obtain ⟨mn, rfl⟩ : ∃ n : Nat, m = (n : Int) := ⟨m.toNat, by omega⟩
                have hFm : kF A mn = true := by unfold kF; exact decide_eq_true m1.2.2
                obtain ⟨d, hd, hU⟩ := TB.up jn (by omega) hF
                rw [down_1]
                obtain ⟨r, r1, r2⟩ := walk1 (K := q + 1) rfl (by omega) (by omega) TA TB hFm (by omega) d jn ⟨#[]⟩ true q q (by omega) hF hU (by rw [sz]; omega) (by omega) (by omega)
                exact ⟨r, fun _ => ⟨r1, r2⟩⟩
          obtain ⟨r, hr⟩ := go3
          by_cases c3 : f = 1
          · rw [decide_eq_true c3, cond_true, cond_true]
            by_cases c4 : m < 0
            · rw [decide_eq_true c4]
              exact ⟨_, rfl, rfl⟩
            · rw [decide_eq_false c4]
              obtain ⟨r1, r2⟩ := hr (fun _ => c4)
              exact ⟨r, r1, r2⟩
          · rw [decide_eq_false c3, cond_false, cond_false]
            obtain ⟨r1, r2⟩ := hr (fun h => absurd h c3)
            exact ⟨r, r1, r2⟩
        · rw [decide_eq_false c2]
          exact ⟨_, rfl, rfl⟩
    · have l1 : f22 k (⟨two A B, m⟩, ⟨f, j⟩) = some false := by
        have : f22 k (⟨two A B, m⟩, ⟨f, j⟩) = start22 gIn (f38 k) (⟨two A B, m⟩, ⟨f, j⟩) := by rw [← f35_eq k]; rfl
        rw [this]
        simp only [start22, lenT, w, in_eq, hfr, decide_false, cond_false, Option.bind_some]
      have l2 : f26 k (⟨two A B, m⟩, ⟨f, j⟩) = some false := by
        have : f26 k (⟨two A B, m⟩, ⟨f, j⟩) = start26 gIn (f39 k) (⟨two A B, m⟩, ⟨f, j⟩) := by rw [← f33_eq k]; rfl
        rw [this]
        simp only [start26, in_eq, hfr, decide_false, cond_false, Option.bind_some]
      simp only [start10, start12, v1, v2, l1, l2, Option.bind_some, Bool.not_true, Bool.not_false, cond_true, cond_false]
      exact ⟨_, rfl, rfl⟩
theorem law_FnExactVfsPath (x0 : S24) (x1 : S34) (h0 : B24 x0) (h1 : B34 x1) : ∃ k, f4 k (x0, x1) = some true := by
  obtain ⟨k, hk⟩ : ∃ k : Nat, 80000000 ≤ k := ⟨_, Nat.le_refl _⟩
  refine ⟨k, ?_⟩
  show start4 (f5 k) (f7 k) (f9 k) (f10 k) (f11 k) (f12 k) (x0, x1) = _
  obtain ⟨r0, e0, s0⟩ := f5_szv k (by omega) x0 h0 1048576 (by omega) (by omega)
  simp only [start4, e0, Option.bind_some]
  rcases s0 with s0 | ⟨s1, s2, s3, s4⟩
  · simp only [s0, decide_true, cond_true]
  · have n0 : ¬ r0 < 0 := by omega
    have u7 := tov7 x0 k s3 s4 (by omega)
    have u11 : f11 k x1 = some x1 := rfl
    obtain ⟨r, b1, b2⟩ := path_all x0 x1 s4 hk
    have q9 := eqv9 x0 k s3 s4 (by omega)
    simp only [n0, decide_false, cond_false, u7, u11, b1, b2, q9, Option.bind_some, beq_self_eq_true, Bool.not_true]
end Go.Sx
