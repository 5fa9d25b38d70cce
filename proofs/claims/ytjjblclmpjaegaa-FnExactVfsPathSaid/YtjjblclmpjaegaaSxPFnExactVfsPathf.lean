/- The plain law FnExactVfsPath, over what its functions compute: a part. No further condition. -/
import Derived.Test.YtjjblclmpjaegaaSxPFnExactVfsPathe
import Derived.Test.YtjjblclmpjaegaaSxBFnExactVfsPath
import Derived.Test.YtjjblclmpjaegaaSxFFnExactVfsPath
set_option linter.unusedVariables false
set_option linter.unusedSimpArgs false
namespace Go.Sx
open Go.RowKit Go.Lib
set_option linter.unusedVariables false
set_option linter.unusedSimpArgs false
def nmAt (es : List S94) (q : Nat) : ByteArray := (rd67 es (q : Int)).f0
theorem f90_sz (k : Nat) (e : S94) (hb : e.f0.size ≤ 140737488351232) (s : Int) (h0 : 0 ≤ s) (h1 : s ≤ 1048576) : ∃ r, f56 k (e, s) = some r ∧ (r < 0 ∨ (0 ≤ r ∧ r ≤ s ∧ e.f0.size ≤ 1048576)) := by
  show ∃ r, cond (decide (w64 (s - (e.f0.size : Int)) < 0)) (some (-1)) (some (w64 (s - (e.f0.size : Int)))) = some r ∧ _
  rw [sz_len h0 h1 (by omega)]
  by_cases c : s - (e.f0.size : Int) < 0
  · exact ⟨-1, by rw [decide_eq_true c]; rfl, .inl (by decide)⟩
  · exact ⟨_, by rw [decide_eq_false c]; rfl, .inr ⟨by omega, by omega, by omega⟩⟩
theorem f77_sz (k : Nat) (hk : 1048577 < k) (es : List S94) (hb : es.length * 24 ≤ 140737488351232 ∧ ∀ e ∈ es, B94 e) (s : Int) (h0 : 0 ≤ s) (h1 : s ≤ 1048576) : ∃ r, f53 k (es, s) = some r ∧ (r < 0 ∨ (0 ≤ r ∧ r ≤ s ∧ es.length ≤ 1048576 ∧ ∀ e ∈ es, e.f0.size ≤ 1048576)) := by
  show ∃ r, cond (decide (w64 (s - (es.length : Int)) < 0)) (some (-1)) (run (step53 (f56 k)) k (J53.j5 es (w64 (s - (es.length : Int))) 0)) = some r ∧ _
  rw [sz_len h0 h1 (by omega)]
  by_cases c : s - (es.length : Int) < 0
  · exact ⟨-1, by rw [decide_eq_true c]; rfl, .inl (by decide)⟩
  · rw [decide_eq_false c, cond_false]
    obtain ⟨r, e, h⟩ := run_sz (step := step53 (f56 k)) (fun i s => J53.j5 es s i) es.length (fun i => (nmAt es i).size ≤ 1048576) (fun go i s hi s0 s1 => by
      have a0 : (i : Int) < (es.length : Int) := by omega
      have a1 : (0 : Int) ≤ (i : Int) := by omega
      obtain ⟨r, e, h⟩ := f90_sz k es[i] (hb.2 _ (List.getElem_mem hi)).b0 s s0 s1
      simp only [step53, a0, a1, decide_true, cond_true, rd94_at hi, e, Option.bind_some, w64_up (show i < 9223372036854775807 by omega)]
      rcases h with h | ⟨h2, h3, h4⟩
      · exact .inl (by rw [decide_eq_true h]; rfl)
      · refine .inr ⟨r, h2, h3, ?_, by rw [decide_eq_false (by omega)]; rfl⟩
        unfold nmAt
        rw [rd67_at hi]; exact h4) (fun go s => by simp [step53]) es.length 0 (s - (es.length : Int)) k (by omega) (by omega) (by omega) (by omega)
    refine ⟨r, e, h.imp id fun ⟨a, b, c⟩ => ⟨a, by omega, by omega, fun z hz => ?_⟩⟩
    obtain ⟨i, hi, rfl⟩ := List.getElem_of_mem hz
    have := c i (Nat.zero_le _) hi
    unfold nmAt at this
    rw [rd67_at hi] at this
    exact this
theorem f65_sz (k : Nat) (hk : 1048577 < k) (z : S86) (hb : B86 z) (s : Int) (h0 : 0 ≤ s) (h1 : s ≤ 1048576) : ∃ r, f49 k (z, s) = some r ∧ (r < 0 ∨ (0 ≤ r ∧ r ≤ s ∧ FitN z)) := by
  have hb7 := hb.b7
  show ∃ r, cond (decide (w64 (s - (z.f7.size : Int)) < 0)) (some (-1)) (Option.bind (f53 k (z.f8, w64 (s - (z.f7.size : Int)))) fun r0 => cond (decide (r0 < 0)) (some (-1)) (some r0)) = some r ∧ _
  rw [sz_len h0 h1 (by omega)]
  by_cases c : s - (z.f7.size : Int) < 0
  · exact ⟨-1, by rw [decide_eq_true c]; rfl, .inl (by decide)⟩
  · obtain ⟨r, e, h⟩ := f77_sz k hk z.f8 hb.b8 (s - (z.f7.size : Int)) (by omega) (by omega)
    rw [decide_eq_false c, cond_false, e, Option.bind_some]
    rcases h with h | ⟨h2, h3, h4, h5⟩
    · exact ⟨-1, by rw [decide_eq_true h]; rfl, .inl (by decide)⟩
    · exact ⟨r, by rw [decide_eq_false (by omega)]; rfl, .inr ⟨h2, by omega, ⟨h4, h5⟩⟩⟩
theorem f15_sz (k : Nat) (hk : 1048577 < k) (x : S63) (hb : B63 x) (s : Int) (h0 : 0 ≤ s) (h1 : s ≤ 1048576) : ∃ r, f29 k (x, s) = some r ∧ (r < 0 ∨ (0 ≤ r ∧ r ≤ s ∧ x.f0.length ≤ 1048576 ∧ ∀ z ∈ x.f0, FitN z)) := by
  have hb0 := hb.b0.1
  have key : ∃ r, f40 k (x.f0, s) = some r ∧ (r < 0 ∨ (0 ≤ r ∧ r ≤ s ∧ x.f0.length ≤ 1048576 ∧ ∀ z ∈ x.f0, FitN z)) := by
    show ∃ r, cond (decide (w64 (s - (x.f0.length : Int)) < 0)) (some (-1)) (run (step40 (f49 k)) k (J40.j5 x.f0 (w64 (s - (x.f0.length : Int))) 0)) = some r ∧ _
    rw [sz_len h0 h1 (by omega)]
    by_cases c : s - (x.f0.length : Int) < 0
    · exact ⟨-1, by rw [decide_eq_true c]; rfl, .inl (by decide)⟩
    · rw [decide_eq_false c, cond_false]
      obtain ⟨r, e, h⟩ := run_sz (step := step40 (f49 k)) (fun i s => J40.j5 x.f0 s i) x.f0.length (fun i => ∀ h : i < x.f0.length, FitN x.f0[i]) (fun go i s hi s0 s1 => by
        have a0 : (i : Int) < (x.f0.length : Int) := by omega
        have a1 : (0 : Int) ≤ (i : Int) := by omega
        obtain ⟨r, e, h⟩ := f65_sz k hk x.f0[i] (hb.b0.2 _ (List.getElem_mem hi)) s s0 s1
        simp only [step40, a0, a1, decide_true, cond_true, rd86_at hi, e, Option.bind_some, w64_up (show i < 9223372036854775807 by omega)]
        rcases h with h | ⟨h2, h3, h4⟩
        · exact .inl (by rw [decide_eq_true h]; rfl)
        · exact .inr ⟨r, h2, h3, fun _ => h4, by rw [decide_eq_false (by omega)]; rfl⟩) (fun go s => by simp [step40]) x.f0.length 0 (s - (x.f0.length : Int)) k (by omega) (by omega) (by omega) (by omega)
      refine ⟨r, e, h.imp id fun ⟨a, b, c⟩ => ⟨a, by omega, by omega, fun z hz => ?_⟩⟩
      obtain ⟨i, hi, rfl⟩ := List.getElem_of_mem hz
      exact c i (Nat.zero_le _) hi hi
  obtain ⟨r, e, h⟩ := key
  show ∃ r, Option.bind (f40 k (x.f0, s)) _ = some r ∧ _
  rw [e, Option.bind_some]
  rcases h with h | ⟨h2, h3, h4⟩
  · exact ⟨-1, by rw [decide_eq_true h]; rfl, .inl (by decide)⟩
  · exact ⟨r, by rw [decide_eq_false (by omega)]; rfl, .inr ⟨h2, h3, h4⟩⟩
theorem e91 (k : Nat) (x : S94) : f57 k x = some x := rfl

theorem to78 (xs : List S94) (k : Nat) (hb : xs.length * 24 ≤ 140737488351232) (hk : xs.length < k) : f54 k xs = some xs := by
  have h0 : (24 * (xs.length : Int)) ≤ 140737488355328 := by omega
  have h00 : ((xs.length : Int)) ≤ 140737488355328 := by omega
  show cond (decide _) (cond (decide _) _ _) _ = _
  rw [decide_eq_true h0, decide_eq_true h00, cond_true, cond_true]
  have := run_on (step := (step54 (f57 k))) (fun i => J54.j3 xs i (xs.take i ++ List.replicate (xs.length - i) ⟨⟨#[]⟩, 0⟩)) xs.length (fun go i hi => by
    have h1 : (i : Int) < (xs.length : Int) := by omega
    have h2 : (0 : Int) ≤ (i : Int) := by omega
    have h3 : (i : Int) < ((xs.take i ++ List.replicate (xs.length - i) (⟨⟨#[]⟩, 0⟩ : S94)).length : Int) := by simp; omega
    simp only [step54, h1, h2, h3, decide_true, cond_true, w64_up (show i < 9223372036854775807 by omega), rd94_at hi, e91, Option.bind_some, Int.toNat_natCast, set_next hi]) (k := k) (by omega)
  have e : run (step54 (f57 k)) k (J54.j3 xs 0 (List.replicate ((xs.length : Int)).toNat ⟨⟨#[]⟩, 0⟩)) = run (step54 (f57 k)) k ((fun (i : Nat) => J54.j3 xs i (xs.take i ++ List.replicate (xs.length - i) ⟨⟨#[]⟩, 0⟩)) 0) := rfl
  rw [e, this, run_pos _ (by omega)]
  simp [step54]

theorem to67 (z : S86) (k : Nat) (hf : FitN z) (hk : 1048577 < k) : f50 k z = some z := by
  have := hf.l
  show Option.bind (f54 k z.f8) _ = _
  rw [to78 z.f8 k (by omega) (by omega), Option.bind_some]

theorem to42 (xs : List S86) (k : Nat) (hb : xs.length * 96 ≤ 140737488351232) (hk : xs.length < k) (hf : ∀ x ∈ xs, FitN x) (hK : 1048577 < k) : f44 k xs = some xs := by
  have h0 : (96 * (xs.length : Int)) ≤ 140737488355328 := by omega
  have h00 : ((xs.length : Int)) ≤ 140737488355328 := by omega
  show cond (decide _) (cond (decide _) _ _) _ = _
  rw [decide_eq_true h0, decide_eq_true h00, cond_true, cond_true]
  have := run_on (step := (step44 (f50 k))) (fun i => J44.j3 xs i (xs.take i ++ List.replicate (xs.length - i) ⟨0, 0, 0, 0, 0, 0, false, ⟨#[]⟩, []⟩)) xs.length (fun go i hi => by
    have h1 : (i : Int) < (xs.length : Int) := by omega
    have h2 : (0 : Int) ≤ (i : Int) := by omega
    have h3 : (i : Int) < ((xs.take i ++ List.replicate (xs.length - i) (⟨0, 0, 0, 0, 0, 0, false, ⟨#[]⟩, []⟩ : S86)).length : Int) := by simp; omega
    simp only [step44, h1, h2, h3, decide_true, cond_true, w64_up (show i < 9223372036854775807 by omega), rd86_at hi, to67 xs[i] k (hf _ (List.getElem_mem hi)) hK, Option.bind_some, Int.toNat_natCast, set_next hi]) (k := k) (by omega)
  have e : run (step44 (f50 k)) k (J44.j3 xs 0 (List.replicate ((xs.length : Int)).toNat ⟨0, 0, 0, 0, 0, 0, false, ⟨#[]⟩, []⟩)) = run (step44 (f50 k)) k ((fun (i : Nat) => J44.j3 xs i (xs.take i ++ List.replicate (xs.length - i) ⟨0, 0, 0, 0, 0, 0, false, ⟨#[]⟩, []⟩)) 0) := rfl
  rw [e, this, run_pos _ (by omega)]
  simp [step44]

theorem to17 (x : S63) (k : Nat) (hl : x.f0.length ≤ 1048576) (hf : ∀ z ∈ x.f0, FitN z) (hk : 1048577 < k) : f32 k x = some x := by
  show Option.bind (f44 k x.f0) _ = _
  rw [to42 x.f0 k (by omega) (by omega) hf hk, Option.bind_some]
theorem eq92 (k : Nat) (a b : S94) : f58 k (a, b) = some (decide (a = b)) := by
  have : decide (a = b) = (decide (a.f0 = b.f0) && decide (a.f1 = b.f1)) := by
    cases a; cases b
    rw [Bool.eq_iff_iff]
    simp
  rw [this, ← bytes_eq]
  show cond (!(a.f0.toList == b.f0.toList)) _ (cond (a.f1 != b.f1) _ _) = _
  rw [bne_int]
  cases (a.f0.toList == b.f0.toList) <;> cases decide (a.f1 = b.f1) <;> rfl
theorem eq79 (xs ys : List S94) (k : Nat) (hx : xs.length < 9223372036854775807) (hk : xs.length < k) : f55 k (xs, ys) = some (decide (xs = ys)) := by
  show cond (_ != _) _ _ = _
  by_cases hl : xs.length = ys.length
  · rw [show (((xs.length : Nat) : Int) != ((ys.length : Nat) : Int)) = false by simp [hl], cond_false]
    have := run_all (step := (step55 (f58 k))) (fun i => J55.j4 xs ys i) xs.length (fun i => decide (xs[i]? = ys[i]?)) (some false) (fun go i hi => by
      have h1 : (i : Int) < (xs.length : Int) := by omega
      have h2 : (0 : Int) ≤ (i : Int) := by omega
      have h3 : (i : Int) < (ys.length : Int) := by omega
      have h4 : i < ys.length := by omega
      simp only [step55, h1, h2, h3, decide_true, cond_true, w64_up (show i < 9223372036854775807 by omega), List.getElem?_eq_getElem hi, List.getElem?_eq_getElem h4, Option.some.injEq, rd67_at hi, rd67_at h4, eq92, Option.bind_some]
      cases hd : decide (xs[i] = ys[i]) <;> rfl) (k := k) (by omega)
    have e : run (step55 (f58 k)) k (J55.j4 xs ys 0) = run (step55 (f58 k)) k ((fun (i : Nat) => J55.j4 xs ys i) 0) := rfl
    rw [e, this, all_eq hl (fun i h => by simp [List.getElem?_eq_getElem h, List.getElem?_eq_getElem (hl ▸ h)]), run_pos _ (by omega)]
    by_cases e : xs = ys <;> simp [e, step55]
  · rw [show (((xs.length : Nat) : Int) != ((ys.length : Nat) : Int)) = true by simp; omega, cond_true]
    rw [decide_eq_false]
    rintro rfl
    exact hl rfl

theorem eq68 (z : S86) (k : Nat) (hf : FitN z) (hk : 1048577 < k) : f52 k (z, z) = some true := by
  have := hf.l
  show cond (z.f0 != z.f0) _ (cond (z.f1 != z.f1) _ (cond (z.f2 != z.f2) _ (cond (z.f3 != z.f3) _ (cond (z.f4 != z.f4) _ (cond (z.f5 != z.f5) _ (cond (!(z.f6 == z.f6)) _ (cond (!(z.f7.toList == z.f7.toList)) _ (Option.bind (f55 k (z.f8, z.f8)) _)))))))) = _
  rw [eq79 z.f8 z.f8 k (by omega) (by omega)]
  simp
theorem eq43 (xs : List S86) (k : Nat) (hl : xs.length ≤ 1048576) (hf : ∀ z ∈ xs, FitN z) (hk : 1048577 < k) : f48 k (xs, xs) = some true := by
  show cond (_ != _) _ (run (step48 (f52 k)) k (J48.j4 xs xs 0)) = _
  rw [bne_self_eq_false, cond_false]
  have := run_on (step := step48 (f52 k)) (fun i => J48.j4 xs xs i) xs.length (fun go i hi => by
    have h1 : (i : Int) < (xs.length : Int) := by omega
    have h2 : (0 : Int) ≤ (i : Int) := by omega
    simp only [step48, h1, h2, decide_true, cond_true, w64_up (show i < 9223372036854775807 by omega), rd49_at hi, eq68 xs[i] k (hf _ (List.getElem_mem hi)) hk, Option.bind_some, Bool.not_true, cond_false]) (k := k) (by omega)
  have e : run (step48 (f52 k)) k (J48.j4 xs xs 0) = run (step48 (f52 k)) k ((fun (i : Nat) => J48.j4 xs xs i) 0) := rfl
  rw [e, this, run_pos _ (by omega)]
  simp [step48]
theorem eq18 (x : S63) (k : Nat) (hl : x.f0.length ≤ 1048576) (hf : ∀ z ∈ x.f0, FitN z) (hk : 1048577 < k) : f37 k (x, x) = some true := by
  show Option.bind (f48 k (x.f0, x.f0)) _ = _
  rw [eq43 x.f0 k hl hf hk]; rfl

structure FitF (x : S63) : Prop where
  l : x.f0.length ≤ 1048576
  z : ∀ z ∈ x.f0, FitN z
theorem f13_szv (k : Nat) (hk : 1048577 < k) (xs : List S63) (hb : xs.length * 24 ≤ 140737488351232 ∧ ∀ x ∈ xs, B63 x) (s : Int) (h0 : 0 ≤ s) (h1 : s ≤ 1048576) : ∃ r, f13 k (xs, s) = some r ∧ (r < 0 ∨ (0 ≤ r ∧ r ≤ s ∧ xs.length ≤ 1048576 ∧ ∀ x ∈ xs, FitF x)) := by
  have hb0 := hb.1
  show ∃ r, cond (decide (w64 (s - (xs.length : Int)) < 0)) (some (-1)) (run (step13 (f29 k)) k (J13.j5 xs (w64 (s - (xs.length : Int))) 0)) = some r ∧ _
  rw [sz_len h0 h1 (by omega)]
  by_cases c : s - (xs.length : Int) < 0
  · exact ⟨-1, by rw [decide_eq_true c]; rfl, .inl (by decide)⟩
  · rw [decide_eq_false c, cond_false]
    obtain ⟨r, e, h⟩ := run_sz (step := step13 (f29 k)) (fun i s => J13.j5 xs s i) xs.length (fun i => ∀ h : i < xs.length, FitF xs[i]) (fun go i s hi s0 s1 => by
      have a0 : (i : Int) < (xs.length : Int) := by omega
      have a1 : (0 : Int) ≤ (i : Int) := by omega
      obtain ⟨r, e, h⟩ := f15_sz k hk xs[i] (hb.2 _ (List.getElem_mem hi)) s s0 s1
      simp only [step13, a0, a1, decide_true, cond_true, rd63_at hi, e, Option.bind_some, w64_up (show i < 9223372036854775807 by omega)]
      rcases h with h | ⟨h2, h3, h4, h5⟩
      · exact .inl (by rw [decide_eq_true h]; rfl)
      · exact .inr ⟨r, h2, h3, fun _ => ⟨h4, h5⟩, by rw [decide_eq_false (by omega)]; rfl⟩) (fun go s => by simp [step13]) xs.length 0 (s - (xs.length : Int)) k (by omega) (by omega) (by omega) (by omega)
    refine ⟨r, e, h.imp id fun ⟨a, b, c⟩ => ⟨a, by omega, by omega, fun z hz => ?_⟩⟩
    obtain ⟨i, hi, rfl⟩ := List.getElem_of_mem hz
    exact c i (Nat.zero_le _) hi hi
theorem f5_szv (k : Nat) (hk : 1048577 < k) (x : S24) (hb : B24 x) (s : Int) (h0 : 0 ≤ s) (h1 : s ≤ 1048576) : ∃ r, f5 k (x, s) = some r ∧ (r < 0 ∨ (0 ≤ r ∧ r ≤ s ∧ x.f0.length ≤ 1048576 ∧ ∀ z ∈ x.f0, FitF z)) := by
  obtain ⟨r, e, h⟩ := f13_szv k hk x.f0 hb.b0 s h0 h1
  show ∃ r, Option.bind (f13 k (x.f0, s)) _ = some r ∧ _
  rw [e, Option.bind_some]
  rcases h with h | ⟨h2, h3, h4⟩
  · exact ⟨-1, by rw [decide_eq_true h]; rfl, .inl (by decide)⟩
  · exact ⟨r, by rw [decide_eq_false (by omega)]; rfl, .inr ⟨h2, h3, h4⟩⟩

theorem tov17 (xs : List S63) (k : Nat) (hb : xs.length * 24 ≤ 140737488351232) (hk : xs.length < k) (hf : ∀ x ∈ xs, FitF x) (hK : 1048577 < k) : f17 k xs = some xs := by
  have h0 : (24 * (xs.length : Int)) ≤ 140737488355328 := by omega
  have h00 : ((xs.length : Int)) ≤ 140737488355328 := by omega
  show cond (decide _) (cond (decide _) _ _) _ = _
  rw [decide_eq_true h0, decide_eq_true h00, cond_true, cond_true]
  have := run_on (step := (step17 (f32 k))) (fun i => J17.j3 xs i (xs.take i ++ List.replicate (xs.length - i) ⟨[]⟩)) xs.length (fun go i hi => by
    have h1 : (i : Int) < (xs.length : Int) := by omega
    have h2 : (0 : Int) ≤ (i : Int) := by omega
    have h3 : (i : Int) < ((xs.take i ++ List.replicate (xs.length - i) (⟨[]⟩ : S63)).length : Int) := by simp; omega
    simp only [step17, h1, h2, h3, decide_true, cond_true, w64_up (show i < 9223372036854775807 by omega), rd63_at hi, to17 xs[i] k (hf _ (List.getElem_mem hi)).l (hf _ (List.getElem_mem hi)).z hK, Option.bind_some, Int.toNat_natCast, set_next hi]) (k := k) (by omega)
  have e : run (step17 (f32 k)) k (J17.j3 xs 0 (List.replicate ((xs.length : Int)).toNat ⟨[]⟩)) = run (step17 (f32 k)) k ((fun (i : Nat) => J17.j3 xs i (xs.take i ++ List.replicate (xs.length - i) ⟨[]⟩)) 0) := rfl
  rw [e, this, run_pos _ (by omega)]
  simp [step17]

theorem tov7 (x : S24) (k : Nat) (hl : x.f0.length ≤ 1048576) (hf : ∀ z ∈ x.f0, FitF z) (hk : 1048577 < k) : f7 k x = some x := by
  show Option.bind (f17 k x.f0) _ = _
  rw [tov17 x.f0 k (by omega) (by omega) hf hk, Option.bind_some]
theorem eqv21 (xs : List S63) (k : Nat) (hl : xs.length ≤ 1048576) (hf : ∀ z ∈ xs, FitF z) (hk : 1048577 < k) : f21 k (xs, xs) = some true := by
  show cond (_ != _) _ (run (step21 (f37 k)) k (J21.j4 xs xs 0)) = _
  rw [bne_self_eq_false, cond_false]
  have := run_on (step := step21 (f37 k)) (fun i => J21.j4 xs xs i) xs.length (fun go i hi => by
    have h1 : (i : Int) < (xs.length : Int) := by omega
    have h2 : (0 : Int) ≤ (i : Int) := by omega
    simp only [step21, h1, h2, decide_true, cond_true, w64_up (show i < 9223372036854775807 by omega), rd44_at hi, eq18 xs[i] k (hf _ (List.getElem_mem hi)).l (hf _ (List.getElem_mem hi)).z hk, Option.bind_some, Bool.not_true, cond_false]) (k := k) (by omega)
  have e : run (step21 (f37 k)) k (J21.j4 xs xs 0) = run (step21 (f37 k)) k ((fun (i : Nat) => J21.j4 xs xs i) 0) := rfl
  rw [e, this, run_pos _ (by omega)]
  simp [step21]
theorem eqv9 (x : S24) (k : Nat) (hl : x.f0.length ≤ 1048576) (hf : ∀ z ∈ x.f0, FitF z) (hk : 1048577 < k) : f9 k (x, x) = some true := by
  show Option.bind (f21 k (x.f0, x.f0)) _ = _
  rw [eqv21 x.f0 k hl hf hk, Option.bind_some]
  simp
/-! ### who has a file open -/
theorem plain_f5 {z : S86} (h : plainB z = true) : z.f5 = 0 := by
  by_cases c : z.f5 = 0
  · exact c
  · exfalso
    have e : (z.f5 == 0) = false := by rw [beq_eq_false_iff_ne]; exact c
    simp [plainB, start41, e] at h
theorem node_f5 {z : S86} (h : nodeS z = true) : 0 ≤ z.f5 ∧ z.f5 ≤ 99 := by
  rcases nodeS_iff.1 h with ⟨_, b⟩ | ⟨_, a, _⟩
  · rw [plain_f5 b]; omega
  · unfold nodeA at a
    simp only [Bool.and_eq_true, decide_eq_true_eq] at a
    exact a.2.2.2.2
theorem opens_run (ns : List S86) (hl : ns.length = 10) (hn : ∀ i, i < 10 → 0 ≤ (nd ns i).f5 ∧ (nd ns i).f5 ≤ 99) (d : Nat) : ∀ (i k : Nat) (s : Int), i + d = 10 → d < k → 0 ≤ s → s ≤ 100 * (i : Int) → ∃ r, run step16 k (J16.j3 s (i : Int) ns) = some r ∧ s ≤ r ∧ (r = s ↔ ∀ q, i ≤ q → q < 10 → (nd ns q).f5 = 0) := by
  induction d with
  | zero =>
    intro i k s hi hk h0 h1
    obtain ⟨k, rfl⟩ : ∃ m, k = m + 1 := ⟨k - 1, by omega⟩
    have a0 : ¬ (i : Int) < (ns.length : Int) := by omega
    refine ⟨s, ?_, Int.le_refl _, ⟨fun _ q h2 h3 => by omega, fun _ => rfl⟩⟩
    rw [run_succ]
    simp only [step16, a0, decide_false, cond_false]
  | succ d ih =>
    intro i k s hi hk h0 h1
    obtain ⟨k, rfl⟩ : ∃ m, k = m + 1 := ⟨k - 1, by omega⟩
    have a0 : (i : Int) < (ns.length : Int) := by omega
    have a1 : (0 : Int) ≤ (i : Int) := by omega
    obtain ⟨b0, b1⟩ := hn i (by omega)
    have eq0 : rd49 ns (i : Int) = nd ns i := rfl
    obtain ⟨r, g1, g2, g3⟩ := ih (i + 1) k (s + (nd ns i).f5) (by omega) (by omega) (by omega) (by omega)
    refine ⟨r, ?_, by omega, ?_⟩
    · rw [run_succ]
      simp only [step16, a0, a1, decide_true, cond_true, eq0, w64_id (n := s + (nd ns i).f5) (by omega) (by omega), w64_up (show i < 9223372036854775807 by omega)]
      exact g1
    · constructor
      · intro e q h2 h3
        have e0 : (nd ns i).f5 = 0 := by omega
        by_cases c : q = i
        · rw [c]; exact e0
        · exact g3.1 (by omega) q (by omega) h3
      · intro h
        have e0 := h i (Nat.le_refl _) (by omega)
        have := g3.2 fun q h2 h3 => h q (by omega) h3
        omega
theorem opened_run (ns : List S86) (hl : ns.length = 10) (K : Nat) (d : Nat) : ∀ (i k : Nat), i + d = 10 → d < k → ∃ r, run (step47 (f36 K)) k (J47.j2 ns (ns.length : Int) (i : Int)) = some r ∧ (r ≥ 0 ↔ ¬ ∀ q, i ≤ q → q < 10 → ¬ (nd ns q).f5 > 0) := by
  induction d with
  | zero =>
    intro i k hi hk
    obtain ⟨k, rfl⟩ : ∃ m, k = m + 1 := ⟨k - 1, by omega⟩
    have a0 : ¬ (i : Int) < (ns.length : Int) := by omega
    refine ⟨-1, ?_, ⟨fun h => by omega, fun h => absurd (fun q h2 h3 => by omega) h⟩⟩
    rw [run_succ]
    simp only [step47, a0, decide_false, cond_false]
  | succ d ih =>
    intro i k hi hk
    obtain ⟨k, rfl⟩ : ∃ m, k = m + 1 := ⟨k - 1, by omega⟩
    have a0 : (i : Int) < (ns.length : Int) := by omega
    have a1 : (0 : Int) ≤ (i : Int) := by omega
    have eq0 : rd49 ns (i : Int) = nd ns i := rfl
    have e36 : f36 K (nd ns i) = some (decide ((nd ns i).f5 > 0)) := rfl
    obtain ⟨r, g1, g2⟩ := ih (i + 1) k (by omega) (by omega)
    rw [run_succ]
    simp only [step47, a0, a1, decide_true, cond_true, eq0, e36, Option.bind_some, w64_up (show i < 9223372036854775807 by omega), g1]
    by_cases c : (nd ns i).f5 > 0
    · exact ⟨i, by rw [decide_eq_true c]; rfl, ⟨fun _ h => h i (Nat.le_refl _) (by omega) c, fun _ => by omega⟩⟩
    · refine ⟨r, by rw [decide_eq_false c]; rfl, g2.trans (not_congr ⟨fun h q h2 h3 => ?_, fun h q h2 h3 => h q (by omega) h3⟩)⟩
      by_cases c2 : q = i
      · rw [c2]; exact c
      · exact h q (by omega) h3
theorem fs_true {ns : List S86} (hf : ∀ i, i < 10 → FitN (nd ns i)) {k : Nat} (hk : 80000000 ≤ k) (h : f14 k ⟨ns⟩ = some true) : ns.length = 10 ∧ ∀ i, i < 10 → nodeS (nd ns i) = true := by
  by_cases hns : ns.length = 10
  · obtain ⟨b, s1, s2, _⟩ := spec_sum ns hns hf hk
    rw [h] at s1
    obtain rfl := Option.some.inj s1
    exact ⟨hns, (s2 rfl).1⟩
  · exfalso
    have : f14 k ⟨ns⟩ = some false := by
      show cond (_ != _) _ _ = _
      rw [bne_int, decide_eq_false (show ¬ ((ns.length : Nat) : Int) = 10 by omega)]; rfl
    rw [this] at h
    cases h
theorem fit_nd {ns : List S86} (hf : ∀ z ∈ ns, FitN z) : ∀ i, FitN (nd ns i) := by
  intro i
  unfold nd rd49
  rw [List.getD_eq_getElem?_getD]
  cases h : ns[((i : Int)).toNat]? with
  | none => exact ⟨Nat.zero_le _, fun e he => by cases he⟩
  | some z => exact hf z (List.mem_of_getElem? h)
/-- Both say alike of a tree of two; where they say yes, both parts are well. -/
theorem vok_all (x : S24) (hf : ∀ z ∈ x.f0, FitF z) {k : Nat} (hk : 80000000 ≤ k) : ∃ b, f6 k x = some b ∧ f8 k x = some b ∧ (b = true → ∃ A B, x.f0 = [⟨A⟩, ⟨B⟩] ∧ f14 k ⟨A⟩ = some true ∧ f14 k ⟨B⟩ = some true ∧ (x.f1 = -1 ∨ (1 ≤ x.f1 ∧ x.f1 ≤ 9 ∧ (rd49 A x.f1).f0 = 2))) := by
  obtain ⟨xs, m⟩ := x
  show ∃ b, start6 (f14 k) (f15 k) (f16 k) (run (step6 (f14 k) (f15 k) (f16 k)) k) ⟨xs, m⟩ = some b ∧ start8 (f18 k) (f20 k) (f19 k) ⟨xs, m⟩ = some b ∧ _
  match xs, hf with
  | [], _ => exact ⟨false, rfl, rfl, fun h => by cases h⟩
  | [_], _ => exact ⟨false, rfl, rfl, fun h => by cases h⟩
  | a1 :: a2 :: a3 :: r, _ =>
    have e : ¬ (((a1 :: a2 :: a3 :: r).length : Nat) : Int) = 2 := by simp only [List.length_cons]; omega
    refine ⟨false, ?_, ?_, fun h => by cases h⟩
    · simp only [start6, bne_int, e, decide_false, Bool.not_false, cond_true]
    · simp only [start8, bne_int, e, decide_false, Bool.not_false, cond_true]
  | [⟨A⟩, ⟨B⟩], hf =>
    have fA := (hf ⟨A⟩ (by simp)).z
    have fB := (hf ⟨B⟩ (by simp)).z
    obtain ⟨a, ha, ha'⟩ := fs_all A (fun i _ => fit_nd fA i) hk
    obtain ⟨b, hb, hb'⟩ := fs_all B (fun i _ => fit_nd fB i) hk
    have ra : rd44 [(⟨A⟩ : S63), ⟨B⟩] 0 = ⟨A⟩ := rfl
    have rb : rd44 [(⟨A⟩ : S63), ⟨B⟩] 1 = ⟨B⟩ := rfl
    have l2 : (([(⟨A⟩ : S63), ⟨B⟩].length : Nat) : Int) = 2 := rfl
    have p0 : (0 : Int) < 2 := by omega
    have p1 : (1 : Int) < 2 := by omega
    simp only [start6, start8, l2, p0, p1, ra, rb, ha, hb, ha', hb', bne_int, beq_int, f33_eq, f35_eq, in_eq, decide_true, Bool.not_true, cond_true, cond_false, Option.bind_some]
    cases a with
    | false => exact ⟨false, rfl, rfl, fun h => by cases h⟩
    | true =>
      cases b with
      | false => exact ⟨false, rfl, rfl, fun h => by cases h⟩
      | true =>
        obtain ⟨lA, nA⟩ := fs_true (ns := A) (fun i _ => fit_nd fA i) hk ha'
        obtain ⟨lB, nB⟩ := fs_true (ns := B) (fun i _ => fit_nd fB i) hk hb'
        simp only [Bool.not_true, cond_false]
        have st : run (step6 (f14 k) gIn (f16 k)) k (J6.j3 [(⟨A⟩ : S63), ⟨B⟩] m) = step6 (f14 k) gIn (f16 k) (run (step6 (f14 k) gIn (f16 k)) (k - 1)) (J6.j3 [(⟨A⟩ : S63), ⟨B⟩] m) := run_pos _ (by omega) _
        rw [st]
        simp only [step6, l2, p0, p1, ra, rb, beq_int, decide_true, cond_true]
        by_cases c1 : m = -1
        · subst c1
          obtain ⟨r, g1, g2, g3⟩ := opens_run B lB (fun i hi => node_f5 (nB i hi)) 10 0 k 0 (by omega) (by omega) (by omega) (by omega)
          obtain ⟨r', g4, g5⟩ := opened_run B lB k 10 0 k (by omega) (by omega)
          have e16 : f16 k ⟨B⟩ = some r := g1
          have e19 : f19 k ⟨B⟩ = some (decide (r' ≥ 0)) := by
            show Option.bind (Option.bind (run (step47 (f36 k)) k (J47.j2 B (B.length : Int) 0)) _) _ = _
            have g4' : run (step47 (f36 k)) k (J47.j2 B (B.length : Int) 0) = some r' := g4
            rw [g4']; rfl
          have q1 : (-1 : Int) ≤ -1 ∧ (-1 : Int) ≤ 9 := by omega
          have q2 : ¬ (-1 : Int) = 0 := by omega
          have q3 : (-1 : Int) < 0 := by omega
          simp only [q1, q2, q3, and_self, decide_true, decide_false, Bool.not_true, cond_true, cond_false, e16, e19, Option.bind_some]
          refine ⟨decide (r = 0), rfl, ?_, fun _ => ⟨A, B, rfl, ha', hb', .inl (by first | rfl | trivial)⟩⟩
          congr 1
          rw [Bool.eq_iff_iff, Bool.not_eq_true', decide_eq_false_iff_not, decide_eq_true_iff, g5, g3, Classical.not_not]
          constructor
          · intro h q h2 h3
            have := (node_f5 (nB q h3)).1
            have := h q h2 h3
            omega
          · intro h q h2 h3
            have := h q h2 h3
            omega
        · simp only [c1, decide_false, cond_false]
          by_cases c2 : 1 ≤ m ∧ m ≤ 9
          · have q1 : (-1 : Int) ≤ m ∧ m ≤ 9 := by omega
            have q2 : ¬ m = 0 := by omega
            have q3 : ¬ m < 0 := by omega
            have q4 : (0 : Int) ≤ m := by omega
            have q5 : m < (A.length : Int) := by omega
            simp only [c2, q1, q2, q3, q4, q5, and_self, decide_true, decide_false, Bool.not_true, cond_true, cond_false]
            by_cases c3 : (rd49 A m).f0 = 2
            · simp only [c3, decide_true, cond_true]
              exact ⟨_, rfl, rfl, fun _ => ⟨A, B, rfl, ha', hb', .inr (by simp [c2, c3])⟩⟩
            · simp only [c3, decide_false, cond_false]
              exact ⟨_, rfl, rfl, fun h => by cases h⟩
          · rw [decide_eq_false c2]
            simp only [cond_false]
            by_cases c4 : (-1 : Int) ≤ m ∧ m ≤ 9
            · have q2 : m = 0 := by omega
              rw [decide_eq_true c4, decide_eq_true q2]
              exact ⟨_, rfl, rfl, fun h => by cases h⟩
            · rw [decide_eq_false c4]
              exact ⟨_, rfl, rfl, fun h => by cases h⟩
end Go.Sx
