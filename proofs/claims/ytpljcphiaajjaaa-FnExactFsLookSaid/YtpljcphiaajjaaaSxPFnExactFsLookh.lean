/- The plain law FnExactFsLook, over what its functions compute: a part. No further condition. -/
import Derived.Test.YtpljcphiaajjaaaSxPFnExactFsLookg
import Derived.Test.YtpljcphiaajjaaaSxBFnExactFsLook
set_option linter.unusedVariables false
set_option linter.unusedSimpArgs false
namespace Go.Sx
open Go.RowKit Go.Lib
set_option linter.unusedVariables false
set_option linter.unusedSimpArgs false
/-! ### sizes -/
theorem f90_sz (k : Nat) (e : S47) (hb : e.f0.size ≤ 140737488351232) (s : Int) (h0 : 0 ≤ s) (h1 : s ≤ 1048576) : ∃ r, f90 k (e, s) = some r ∧ (r < 0 ∨ (0 ≤ r ∧ r ≤ s ∧ e.f0.size ≤ 1048576)) := by
  show ∃ r, cond (decide (w64 (s - (e.f0.size : Int)) < 0)) (some (-1)) (some (w64 (s - (e.f0.size : Int)))) = some r ∧ _
  rw [sz_len h0 h1 (by omega)]
  by_cases c : s - (e.f0.size : Int) < 0
  · exact ⟨-1, by rw [decide_eq_true c]; rfl, .inl (by decide)⟩
  · exact ⟨_, by rw [decide_eq_false c]; rfl, .inr ⟨by omega, by omega, by omega⟩⟩
theorem f49_sz (k : Nat) (l : List Int) (hb : l.length * 8 ≤ 140737488351232) (s : Int) (h0 : 0 ≤ s) (h1 : s ≤ 1048576) : ∃ r, f49 k (l, s) = some r ∧ (r < 0 ∨ (0 ≤ r ∧ r ≤ s ∧ l.length ≤ 1048576)) := by
  show ∃ r, cond (decide (w64 (s - (l.length : Int)) < 0)) (some (-1)) (some (w64 (s - (l.length : Int)))) = some r ∧ _
  rw [sz_len h0 h1 (by omega)]
  by_cases c : s - (l.length : Int) < 0
  · exact ⟨-1, by rw [decide_eq_true c]; rfl, .inl (by decide)⟩
  · exact ⟨_, by rw [decide_eq_false c]; rfl, .inr ⟨by omega, by omega, by omega⟩⟩
theorem f77_sz (k : Nat) (hk : 1048577 < k) (es : List S47) (hb : es.length * 24 ≤ 140737488351232 ∧ ∀ e ∈ es, B126 e) (s : Int) (h0 : 0 ≤ s) (h1 : s ≤ 1048576) : ∃ r, f77 k (es, s) = some r ∧ (r < 0 ∨ (0 ≤ r ∧ r ≤ s ∧ es.length ≤ 1048576 ∧ ∀ e ∈ es, e.f0.size ≤ 1048576)) := by
  show ∃ r, cond (decide (w64 (s - (es.length : Int)) < 0)) (some (-1)) (run (step77 (f90 k)) k (J77.j5 es (w64 (s - (es.length : Int))) 0)) = some r ∧ _
  rw [sz_len h0 h1 (by omega)]
  by_cases c : s - (es.length : Int) < 0
  · exact ⟨-1, by rw [decide_eq_true c]; rfl, .inl (by decide)⟩
  · rw [decide_eq_false c, cond_false]
    obtain ⟨r, e, h⟩ := run_sz (step := step77 (f90 k)) (fun i s => J77.j5 es s i) es.length (fun i => (nmAt es i).size ≤ 1048576) (fun go i s hi s0 s1 => by
      have a0 : (i : Int) < (es.length : Int) := by omega
      have a1 : (0 : Int) ≤ (i : Int) := by omega
      obtain ⟨r, e, h⟩ := f90_sz k es[i] (hb.2 _ (List.getElem_mem hi)).b0 s s0 s1
      simp only [step77, a0, a1, decide_true, cond_true, rd126_at hi, e, Option.bind_some, w64_up (show i < 9223372036854775807 by omega)]
      rcases h with h | ⟨h2, h3, h4⟩
      · exact .inl (by rw [decide_eq_true h]; rfl)
      · refine .inr ⟨r, h2, h3, ?_, by rw [decide_eq_false (by omega)]; rfl⟩
        unfold nmAt
        rw [rd47_at hi]; exact h4) (fun go s => by simp [step77]) es.length 0 (s - (es.length : Int)) k (by omega) (by omega) (by omega) (by omega)
    refine ⟨r, e, h.imp id fun ⟨a, b, c⟩ => ⟨a, by omega, by omega, fun z hz => ?_⟩⟩
    obtain ⟨i, hi, rfl⟩ := List.getElem_of_mem hz
    have := c i (Nat.zero_le _) hi
    unfold nmAt at this
    rw [rd47_at hi] at this
    exact this
theorem f65_sz (k : Nat) (hk : 1048577 < k) (z : S34) (hb : B100 z) (s : Int) (h0 : 0 ≤ s) (h1 : s ≤ 1048576) : ∃ r, f65 k (z, s) = some r ∧ (r < 0 ∨ (0 ≤ r ∧ r ≤ s ∧ FitN z)) := by
  have hb7 := hb.b7
  show ∃ r, cond (decide (w64 (s - (z.f7.size : Int)) < 0)) (some (-1)) (Option.bind (f77 k (z.f8, w64 (s - (z.f7.size : Int)))) fun r0 => cond (decide (r0 < 0)) (some (-1)) (some r0)) = some r ∧ _
  rw [sz_len h0 h1 (by omega)]
  by_cases c : s - (z.f7.size : Int) < 0
  · exact ⟨-1, by rw [decide_eq_true c]; rfl, .inl (by decide)⟩
  · obtain ⟨r, e, h⟩ := f77_sz k hk z.f8 hb.b8 (s - (z.f7.size : Int)) (by omega) (by omega)
    rw [decide_eq_false c, cond_false, e, Option.bind_some]
    rcases h with h | ⟨h2, h3, h4, h5⟩
    · exact ⟨-1, by rw [decide_eq_true h]; rfl, .inl (by decide)⟩
    · exact ⟨r, by rw [decide_eq_false (by omega)]; rfl, .inr ⟨h2, by omega, ⟨h4, h5⟩⟩⟩
theorem f15_sz (k : Nat) (hk : 1048577 < k) (x : S27) (hb : B38 x) (s : Int) (h0 : 0 ≤ s) (h1 : s ≤ 1048576) : ∃ r, f15 k (x, s) = some r ∧ (r < 0 ∨ (0 ≤ r ∧ r ≤ s ∧ x.f0.length ≤ 1048576 ∧ ∀ z ∈ x.f0, FitN z)) := by
  have hb0 := hb.b0.1
  have key : ∃ r, f39 k (x.f0, s) = some r ∧ (r < 0 ∨ (0 ≤ r ∧ r ≤ s ∧ x.f0.length ≤ 1048576 ∧ ∀ z ∈ x.f0, FitN z)) := by
    show ∃ r, cond (decide (w64 (s - (x.f0.length : Int)) < 0)) (some (-1)) (run (step39 (f65 k)) k (J39.j5 x.f0 (w64 (s - (x.f0.length : Int))) 0)) = some r ∧ _
    rw [sz_len h0 h1 (by omega)]
    by_cases c : s - (x.f0.length : Int) < 0
    · exact ⟨-1, by rw [decide_eq_true c]; rfl, .inl (by decide)⟩
    · rw [decide_eq_false c, cond_false]
      obtain ⟨r, e, h⟩ := run_sz (step := step39 (f65 k)) (fun i s => J39.j5 x.f0 s i) x.f0.length (fun i => ∀ h : i < x.f0.length, FitN x.f0[i]) (fun go i s hi s0 s1 => by
        have a0 : (i : Int) < (x.f0.length : Int) := by omega
        have a1 : (0 : Int) ≤ (i : Int) := by omega
        obtain ⟨r, e, h⟩ := f65_sz k hk x.f0[i] (hb.b0.2 _ (List.getElem_mem hi)) s s0 s1
        simp only [step39, a0, a1, decide_true, cond_true, rd100_at hi, e, Option.bind_some, w64_up (show i < 9223372036854775807 by omega)]
        rcases h with h | ⟨h2, h3, h4⟩
        · exact .inl (by rw [decide_eq_true h]; rfl)
        · exact .inr ⟨r, h2, h3, fun _ => h4, by rw [decide_eq_false (by omega)]; rfl⟩) (fun go s => by simp [step39]) x.f0.length 0 (s - (x.f0.length : Int)) k (by omega) (by omega) (by omega) (by omega)
      refine ⟨r, e, h.imp id fun ⟨a, b, c⟩ => ⟨a, by omega, by omega, fun z hz => ?_⟩⟩
      obtain ⟨i, hi, rfl⟩ := List.getElem_of_mem hz
      exact c i (Nat.zero_le _) hi hi
  obtain ⟨r, e, h⟩ := key
  show ∃ r, Option.bind (f39 k (x.f0, s)) _ = some r ∧ _
  rw [e, Option.bind_some]
  rcases h with h | ⟨h2, h3, h4⟩
  · exact ⟨-1, by rw [decide_eq_true h]; rfl, .inl (by decide)⟩
  · exact ⟨r, by rw [decide_eq_false (by omega)]; rfl, .inr ⟨h2, h3, h4⟩⟩
theorem f23_sz (k : Nat) (x : S52) (hb : B52 x) (s : Int) (h0 : 0 ≤ s) (h1 : s ≤ 1048576) : ∃ r, f23 k (x, s) = some r ∧ (r < 0 ∨ (0 ≤ r ∧ r ≤ s ∧ x.f2.length ≤ 1048576)) := by
  obtain ⟨r, e, h⟩ := f49_sz k x.f2 hb.b2.1 s h0 h1
  show ∃ r, Option.bind (f49 k (x.f2, s)) _ = some r ∧ _
  rw [e, Option.bind_some]
  rcases h with h | ⟨h2, h3, h4⟩
  · exact ⟨-1, by rw [decide_eq_true h]; rfl, .inl (by decide)⟩
  · exact ⟨r, by rw [decide_eq_false (by omega)]; rfl, .inr ⟨h2, h3, h4⟩⟩
/-! ### copies -/

theorem to53 (xs : List Int) (k : Nat) (hb : xs.length * 8 ≤ 140737488351232) (hk : xs.length < k) : f53 k xs = some xs := by
  have h0 : (8 * (xs.length : Int)) ≤ 140737488355328 := by omega
  have h00 : ((xs.length : Int)) ≤ 140737488355328 := by omega
  show cond (decide _) (cond (decide _) _ _) _ = _
  rw [decide_eq_true h0, decide_eq_true h00, cond_true, cond_true]
  have := run_on (step := step53) (fun i => J53.j3 xs i (xs.take i ++ List.replicate (xs.length - i) 0)) xs.length (fun go i hi => by
    have h1 : (i : Int) < (xs.length : Int) := by omega
    have h2 : (0 : Int) ≤ (i : Int) := by omega
    have h3 : (i : Int) < ((xs.take i ++ List.replicate (xs.length - i) (0 : Int)).length : Int) := by simp; omega
    simp only [step53, h1, h2, h3, decide_true, cond_true, w64_up (show i < 9223372036854775807 by omega), rd3_at hi, Int.toNat_natCast, set_next hi]) (k := k) (by omega)
  have e : run step53 k (J53.j3 xs 0 (List.replicate ((xs.length : Int)).toNat 0)) = run step53 k ((fun (i : Nat) => J53.j3 xs i (xs.take i ++ List.replicate (xs.length - i) 0)) 0) := rfl
  rw [e, this, run_pos _ (by omega)]
  simp [step53]
theorem e91 (k : Nat) (x : S47) : f91 k x = some x := rfl

theorem to78 (xs : List S47) (k : Nat) (hb : xs.length * 24 ≤ 140737488351232) (hk : xs.length < k) : f78 k xs = some xs := by
  have h0 : (24 * (xs.length : Int)) ≤ 140737488355328 := by omega
  have h00 : ((xs.length : Int)) ≤ 140737488355328 := by omega
  show cond (decide _) (cond (decide _) _ _) _ = _
  rw [decide_eq_true h0, decide_eq_true h00, cond_true, cond_true]
  have := run_on (step := (step78 (f91 k))) (fun i => J78.j3 xs i (xs.take i ++ List.replicate (xs.length - i) ⟨⟨#[]⟩, 0⟩)) xs.length (fun go i hi => by
    have h1 : (i : Int) < (xs.length : Int) := by omega
    have h2 : (0 : Int) ≤ (i : Int) := by omega
    have h3 : (i : Int) < ((xs.take i ++ List.replicate (xs.length - i) (⟨⟨#[]⟩, 0⟩ : S47)).length : Int) := by simp; omega
    simp only [step78, h1, h2, h3, decide_true, cond_true, w64_up (show i < 9223372036854775807 by omega), rd126_at hi, e91, Option.bind_some, Int.toNat_natCast, set_next hi]) (k := k) (by omega)
  have e : run (step78 (f91 k)) k (J78.j3 xs 0 (List.replicate ((xs.length : Int)).toNat ⟨⟨#[]⟩, 0⟩)) = run (step78 (f91 k)) k ((fun (i : Nat) => J78.j3 xs i (xs.take i ++ List.replicate (xs.length - i) ⟨⟨#[]⟩, 0⟩)) 0) := rfl
  rw [e, this, run_pos _ (by omega)]
  simp [step78]

theorem to67 (z : S34) (k : Nat) (hf : FitN z) (hk : 1048577 < k) : f67 k z = some z := by
  have := hf.l
  show Option.bind (f78 k z.f8) _ = _
  rw [to78 z.f8 k (by omega) (by omega), Option.bind_some]

theorem to42 (xs : List S34) (k : Nat) (hb : xs.length * 96 ≤ 140737488351232) (hk : xs.length < k) (hf : ∀ x ∈ xs, FitN x) (hK : 1048577 < k) : f42 k xs = some xs := by
  have h0 : (96 * (xs.length : Int)) ≤ 140737488355328 := by omega
  have h00 : ((xs.length : Int)) ≤ 140737488355328 := by omega
  show cond (decide _) (cond (decide _) _ _) _ = _
  rw [decide_eq_true h0, decide_eq_true h00, cond_true, cond_true]
  have := run_on (step := (step42 (f67 k))) (fun i => J42.j3 xs i (xs.take i ++ List.replicate (xs.length - i) ⟨0, 0, 0, 0, 0, 0, false, ⟨#[]⟩, []⟩)) xs.length (fun go i hi => by
    have h1 : (i : Int) < (xs.length : Int) := by omega
    have h2 : (0 : Int) ≤ (i : Int) := by omega
    have h3 : (i : Int) < ((xs.take i ++ List.replicate (xs.length - i) (⟨0, 0, 0, 0, 0, 0, false, ⟨#[]⟩, []⟩ : S34)).length : Int) := by simp; omega
    simp only [step42, h1, h2, h3, decide_true, cond_true, w64_up (show i < 9223372036854775807 by omega), rd100_at hi, to67 xs[i] k (hf _ (List.getElem_mem hi)) hK, Option.bind_some, Int.toNat_natCast, set_next hi]) (k := k) (by omega)
  have e : run (step42 (f67 k)) k (J42.j3 xs 0 (List.replicate ((xs.length : Int)).toNat ⟨0, 0, 0, 0, 0, 0, false, ⟨#[]⟩, []⟩)) = run (step42 (f67 k)) k ((fun (i : Nat) => J42.j3 xs i (xs.take i ++ List.replicate (xs.length - i) ⟨0, 0, 0, 0, 0, 0, false, ⟨#[]⟩, []⟩)) 0) := rfl
  rw [e, this, run_pos _ (by omega)]
  simp [step42]

theorem to17 (x : S27) (k : Nat) (hl : x.f0.length ≤ 1048576) (hf : ∀ z ∈ x.f0, FitN z) (hk : 1048577 < k) : f17 k x = some x := by
  show Option.bind (f42 k x.f0) _ = _
  rw [to42 x.f0 k (by omega) (by omega) hf hk, Option.bind_some]
theorem to25 (x : S52) (k : Nat) (hl : x.f2.length ≤ 1048576) (hk : 1048577 < k) : f25 k x = some x := by
  show Option.bind (f53 k x.f2) _ = _
  rw [to53 x.f2 k (by omega) (by omega), Option.bind_some]
/-! ### equalities -/
theorem eq92 (k : Nat) (a b : S47) : f92 k (a, b) = some (decide (a = b)) := by
  have : decide (a = b) = (decide (a.f0 = b.f0) && decide (a.f1 = b.f1)) := by
    cases a; cases b
    rw [Bool.eq_iff_iff]
    simp
  rw [this, ← bytes_eq]
  show cond (!(a.f0.toList == b.f0.toList)) _ (cond (a.f1 != b.f1) _ _) = _
  rw [bne_int]
  cases (a.f0.toList == b.f0.toList) <;> cases decide (a.f1 = b.f1) <;> rfl

theorem eq57 (xs ys : List Int) (k : Nat) (hx : xs.length < 9223372036854775807) (hk : xs.length < k) : f57 k (xs, ys) = some (decide (xs = ys)) := by
  show cond (_ != _) _ _ = _
  by_cases hl : xs.length = ys.length
  · rw [show (((xs.length : Nat) : Int) != ((ys.length : Nat) : Int)) = false by simp [hl], cond_false]
    have := run_all (step := step57) (fun i => J57.j4 xs ys i) xs.length (fun i => decide (xs[i]? = ys[i]?)) (some false) (fun go i hi => by
      have h1 : (i : Int) < (xs.length : Int) := by omega
      have h2 : (0 : Int) ≤ (i : Int) := by omega
      have h3 : (i : Int) < (ys.length : Int) := by omega
      have h4 : i < ys.length := by omega
      simp only [step57, h1, h2, h3, decide_true, cond_true, w64_up (show i < 9223372036854775807 by omega), List.getElem?_eq_getElem hi, List.getElem?_eq_getElem h4, Option.some.injEq, rd3_at hi, rd3_at h4, bne_int]
      cases hd : decide (xs[i] = ys[i]) <;> rfl) (k := k) (by omega)
    have e : run step57 k (J57.j4 xs ys 0) = run step57 k ((fun (i : Nat) => J57.j4 xs ys i) 0) := rfl
    rw [e, this, all_eq hl (fun i h => by simp [List.getElem?_eq_getElem h, List.getElem?_eq_getElem (hl ▸ h)]), run_pos _ (by omega)]
    by_cases e : xs = ys <;> simp [e, step57]
  · rw [show (((xs.length : Nat) : Int) != ((ys.length : Nat) : Int)) = true by simp; omega, cond_true]
    rw [decide_eq_false]
    rintro rfl
    exact hl rfl

theorem eq79 (xs ys : List S47) (k : Nat) (hx : xs.length < 9223372036854775807) (hk : xs.length < k) : f79 k (xs, ys) = some (decide (xs = ys)) := by
  show cond (_ != _) _ _ = _
  by_cases hl : xs.length = ys.length
  · rw [show (((xs.length : Nat) : Int) != ((ys.length : Nat) : Int)) = false by simp [hl], cond_false]
    have := run_all (step := (step79 (f92 k))) (fun i => J79.j4 xs ys i) xs.length (fun i => decide (xs[i]? = ys[i]?)) (some false) (fun go i hi => by
      have h1 : (i : Int) < (xs.length : Int) := by omega
      have h2 : (0 : Int) ≤ (i : Int) := by omega
      have h3 : (i : Int) < (ys.length : Int) := by omega
      have h4 : i < ys.length := by omega
      simp only [step79, h1, h2, h3, decide_true, cond_true, w64_up (show i < 9223372036854775807 by omega), List.getElem?_eq_getElem hi, List.getElem?_eq_getElem h4, Option.some.injEq, rd47_at hi, rd47_at h4, eq92, Option.bind_some]
      cases hd : decide (xs[i] = ys[i]) <;> rfl) (k := k) (by omega)
    have e : run (step79 (f92 k)) k (J79.j4 xs ys 0) = run (step79 (f92 k)) k ((fun (i : Nat) => J79.j4 xs ys i) 0) := rfl
    rw [e, this, all_eq hl (fun i h => by simp [List.getElem?_eq_getElem h, List.getElem?_eq_getElem (hl ▸ h)]), run_pos _ (by omega)]
    by_cases e : xs = ys <;> simp [e, step79]
  · rw [show (((xs.length : Nat) : Int) != ((ys.length : Nat) : Int)) = true by simp; omega, cond_true]
    rw [decide_eq_false]
    rintro rfl
    exact hl rfl

theorem eq68 (z : S34) (k : Nat) (hf : FitN z) (hk : 1048577 < k) : f68 k (z, z) = some true := by
  have := hf.l
  show cond (z.f0 != z.f0) _ (cond (z.f1 != z.f1) _ (cond (z.f2 != z.f2) _ (cond (z.f3 != z.f3) _ (cond (z.f4 != z.f4) _ (cond (z.f5 != z.f5) _ (cond (!(z.f6 == z.f6)) _ (cond (!(z.f7.toList == z.f7.toList)) _ (Option.bind (f79 k (z.f8, z.f8)) _)))))))) = _
  rw [eq79 z.f8 z.f8 k (by omega) (by omega)]
  simp
theorem eq43 (xs : List S34) (k : Nat) (hl : xs.length ≤ 1048576) (hf : ∀ z ∈ xs, FitN z) (hk : 1048577 < k) : f43 k (xs, xs) = some true := by
  show cond (_ != _) _ (run (step43 (f68 k)) k (J43.j4 xs xs 0)) = _
  rw [bne_self_eq_false, cond_false]
  have := run_on (step := step43 (f68 k)) (fun i => J43.j4 xs xs i) xs.length (fun go i hi => by
    have h1 : (i : Int) < (xs.length : Int) := by omega
    have h2 : (0 : Int) ≤ (i : Int) := by omega
    simp only [step43, h1, h2, decide_true, cond_true, w64_up (show i < 9223372036854775807 by omega), rd34_at hi, eq68 xs[i] k (hf _ (List.getElem_mem hi)) hk, Option.bind_some, Bool.not_true, cond_false]) (k := k) (by omega)
  have e : run (step43 (f68 k)) k (J43.j4 xs xs 0) = run (step43 (f68 k)) k ((fun (i : Nat) => J43.j4 xs xs i) 0) := rfl
  rw [e, this, run_pos _ (by omega)]
  simp [step43]
theorem eq18 (x : S27) (k : Nat) (hl : x.f0.length ≤ 1048576) (hf : ∀ z ∈ x.f0, FitN z) (hk : 1048577 < k) : f18 k (x, x) = some true := by
  show Option.bind (f43 k (x.f0, x.f0)) _ = _
  rw [eq43 x.f0 k hl hf hk]; rfl
theorem eq27 (x : S52) (k : Nat) (hl : x.f2.length ≤ 1048576) (hk : 1048577 < k) : f27 k (x, x) = some true := by
  show cond (x.f0 != x.f0) _ (cond (x.f1 != x.f1) _ (Option.bind (f57 k (x.f2, x.f2)) _)) = _
  rw [eq57 x.f2 x.f2 k (by omega) (by omega)]
  simp
end Go.Sx
