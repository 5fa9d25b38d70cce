/- The plain law FnExactBytesSame: what its functions compute is true, within the bounds. No further condition. -/
import Derived.Test.YtecniihieninjaaSxFFnExactBytesSame
import Derived.Test.YtecniihieninjaaSxV
import Derived.Test.YtecniihieninjaaSxBFnExactBytesSame
set_option linter.unusedVariables false
set_option linter.unusedSimpArgs false
namespace Go.Sx
open Go.RowKit

/-! ### Sizes: each answers -/
theorem sz42 (k : Nat) (a : List Int × Int) : ∃ r, f42 k a = some r := by
  obtain ⟨x, z⟩ := a
  show ∃ r, cond _ _ _ = some r
  cases decide (w64 (z - (x.length : Int)) < 0) <;> exact ⟨_, rfl⟩
theorem sz78 (k : Nat) (a : List S147 × Int) : ∃ r, f78 k a = some r := by
  obtain ⟨x, z⟩ := a
  show ∃ r, cond _ _ _ = some r
  cases decide (w64 (z - (x.length : Int)) < 0) <;> exact ⟨_, rfl⟩
theorem sz79 (xs : List ByteArray) (z : Int) (k : Nat) (hx : xs.length < 9223372036854775807) (hk : xs.length < k) : ∃ r, f79 k (xs, z) = some r := by
  show ∃ r, cond _ _ _ = some r
  cases decide (w64 (z - (xs.length : Int)) < 0)
  · refine run_tot (fun i s => J79.j5 xs s i) xs.length (fun _ => True) (fun go i s hi _ => ?_) (fun go s _ => ⟨s, ?_⟩) xs.length 0 _ k (by omega) hk trivial
    · have h1 : (i : Int) < (xs.length : Int) := by omega
      have h2 : (0 : Int) ≤ (i : Int) := by omega
      simp only [step79, h1, h2, decide_true, cond_true, w64_up (show i < 9223372036854775807 by omega)]
      cases decide (w64 (s - ((rd9 xs i).size : Int)) < 0)
      · exact .inl ⟨_, trivial, rfl⟩
      · exact .inr ⟨_, rfl⟩
    · simp [step79]
  · exact ⟨_, rfl⟩

structure Fit101 (x : S101) (k : Nat) : Prop where
  a : x.f1.length < k
  g : x.f2.length < k
  t : x.f3.length < k
  a2 : x.f1.length * 24 ≤ 140737488351232
  g2 : x.f2.length * 8 ≤ 140737488351232
  t2 : x.f3.length * 16 ≤ 140737488351232

theorem sz62 (x : S101) (z : Int) (k : Nat) (h : Fit101 x k) : ∃ r, f62 k (x, z) = some r := by
  show ∃ r, Option.bind _ _ = some r
  obtain ⟨r0, e0⟩ := sz78 k (x.f1, z)
  rw [e0, Option.bind_some]
  cases decide (r0 < 0)
  · obtain ⟨r1, e1⟩ := sz42 k (x.f2, r0)
    rw [cond_false, e1, Option.bind_some]
    cases decide (r1 < 0)
    · obtain ⟨r2, e2⟩ := sz79 x.f3 r1 k (by have := h.t2; omega) h.t
      rw [cond_false, e2, Option.bind_some]
      cases decide (r2 < 0) <;> exact ⟨_, rfl⟩
    · exact ⟨_, rfl⟩
  · exact ⟨_, rfl⟩

theorem sz46 (xs : List S101) (z : Int) (k : Nat) (hx : xs.length < 9223372036854775807) (hk : xs.length < k) (hf : ∀ x ∈ xs, Fit101 x k) : ∃ r, f46 k (xs, z) = some r := by
  show ∃ r, cond _ _ _ = some r
  cases decide (w64 (z - (xs.length : Int)) < 0)
  · refine run_tot (fun i s => J46.j5 xs s i) xs.length (fun _ => True) (fun go i s hi _ => ?_) (fun go s _ => ⟨s, ?_⟩) xs.length 0 _ k (by omega) hk trivial
    · have h1 : (i : Int) < (xs.length : Int) := by omega
      have h2 : (0 : Int) ≤ (i : Int) := by omega
      obtain ⟨r, e⟩ := sz62 xs[i] s k (hf _ (List.getElem_mem hi))
      simp only [step46, h1, h2, decide_true, cond_true, w64_up (show i < 9223372036854775807 by omega), rd101_at hi, e, Option.bind_some]
      cases decide (r < 0)
      · exact .inl ⟨_, trivial, rfl⟩
      · exact .inr ⟨_, rfl⟩
    · simp [step46]
  · exact ⟨_, rfl⟩

/-! ### Copies: each answers what came in -/
theorem to45 (xs : List Int) (k : Nat) (hb : xs.length * 8 ≤ 140737488351232) (hk : xs.length < k) : f45 k xs = some xs := by
  have h0 : (8 * (xs.length : Int)) ≤ 140737488355328 := by omega
  have h00 : ((xs.length : Int)) ≤ 140737488355328 := by omega
  show cond (decide _) (cond (decide _) _ _) _ = _
  rw [decide_eq_true h0, decide_eq_true h00, cond_true, cond_true]
  have := run_on (step := step45) (fun i => J45.j3 xs i (xs.take i ++ List.replicate (xs.length - i) 0)) xs.length (fun go i hi => by
    have h1 : (i : Int) < (xs.length : Int) := by omega
    have h2 : (0 : Int) ≤ (i : Int) := by omega
    have h3 : (i : Int) < ((xs.take i ++ List.replicate (xs.length - i) (0 : Int)).length : Int) := by simp; omega
    simp only [step45, h1, h2, h3, decide_true, cond_true, w64_up (show i < 9223372036854775807 by omega), rd3_at hi, Int.toNat_natCast, set_next hi]) (k := k) (by omega)
  have e : run step45 k (J45.j3 xs 0 (List.replicate ((xs.length : Int)).toNat 0)) = run step45 k ((fun (i : Nat) => J45.j3 xs i (xs.take i ++ List.replicate (xs.length - i) 0)) 0) := rfl
  rw [e, this, run_pos _ (by omega)]
  simp [step45]

theorem to81 (xs : List ByteArray) (k : Nat) (hb : xs.length * 16 ≤ 140737488351232) (hk : xs.length < k) : f81 k xs = some xs := by
  have h0 : (16 * (xs.length : Int)) ≤ 140737488355328 := by omega
  have h00 : ((xs.length : Int)) ≤ 140737488355328 := by omega
  show cond (decide _) (cond (decide _) _ _) _ = _
  rw [decide_eq_true h0, decide_eq_true h00, cond_true, cond_true]
  have := run_on (step := step81) (fun i => J81.j3 xs i (xs.take i ++ List.replicate (xs.length - i) ⟨#[]⟩)) xs.length (fun go i hi => by
    have h1 : (i : Int) < (xs.length : Int) := by omega
    have h2 : (0 : Int) ≤ (i : Int) := by omega
    have h3 : (i : Int) < ((xs.take i ++ List.replicate (xs.length - i) (⟨#[]⟩ : ByteArray)).length : Int) := by simp; omega
    simp only [step81, h1, h2, h3, decide_true, cond_true, w64_up (show i < 9223372036854775807 by omega), rd9_at hi, Int.toNat_natCast, set_next hi]) (k := k) (by omega)
  have e : run step81 k (J81.j3 xs 0 (List.replicate ((xs.length : Int)).toNat ⟨#[]⟩)) = run step81 k ((fun (i : Nat) => J81.j3 xs i (xs.take i ++ List.replicate (xs.length - i) ⟨#[]⟩)) 0) := rfl
  rw [e, this, run_pos _ (by omega)]
  simp [step81]

theorem e103 (k : Nat) (x : S147) : f103 k x = some x := rfl
theorem to80 (xs : List S147) (k : Nat) (hb : xs.length * 24 ≤ 140737488351232) (hk : xs.length < k) : f80 k xs = some xs := by
  have h0 : (24 * (xs.length : Int)) ≤ 140737488355328 := by omega
  have h00 : ((xs.length : Int)) ≤ 140737488355328 := by omega
  show cond (decide _) (cond (decide _) _ _) _ = _
  rw [decide_eq_true h0, decide_eq_true h00, cond_true, cond_true]
  have := run_on (step := (step80 (f103 k))) (fun i => J80.j3 xs i (xs.take i ++ List.replicate (xs.length - i) ⟨0, 0, false, false⟩)) xs.length (fun go i hi => by
    have h1 : (i : Int) < (xs.length : Int) := by omega
    have h2 : (0 : Int) ≤ (i : Int) := by omega
    have h3 : (i : Int) < ((xs.take i ++ List.replicate (xs.length - i) (⟨0, 0, false, false⟩ : S147)).length : Int) := by simp; omega
    simp only [step80, h1, h2, h3, decide_true, cond_true, w64_up (show i < 9223372036854775807 by omega), rd147_at hi, e103, Option.bind_some, Int.toNat_natCast, set_next hi]) (k := k) (by omega)
  have e : run (step80 (f103 k)) k (J80.j3 xs 0 (List.replicate ((xs.length : Int)).toNat ⟨0, 0, false, false⟩)) = run (step80 (f103 k)) k ((fun (i : Nat) => J80.j3 xs i (xs.take i ++ List.replicate (xs.length - i) ⟨0, 0, false, false⟩)) 0) := rfl
  rw [e, this, run_pos _ (by omega)]
  simp [step80]

theorem to63 (x : S101) (k : Nat) (h : Fit101 x k) : f63 k x = some x := by
  show Option.bind _ _ = _
  rw [to80 x.f1 k h.a2 h.a, Option.bind_some, to45 x.f2 k h.g2 h.g, Option.bind_some, to81 x.f3 k h.t2 h.t, Option.bind_some]

theorem to47 (xs : List S101) (k : Nat) (hb : xs.length * 80 ≤ 140737488351232) (hk : xs.length < k) (hf : ∀ x ∈ xs, Fit101 x k) : f47 k xs = some xs := by
  have h0 : (80 * (xs.length : Int)) ≤ 140737488355328 := by omega
  have h00 : ((xs.length : Int)) ≤ 140737488355328 := by omega
  show cond (decide _) (cond (decide _) _ _) _ = _
  rw [decide_eq_true h0, decide_eq_true h00, cond_true, cond_true]
  have := run_on (step := (step47 (f63 k))) (fun i => J47.j3 xs i (xs.take i ++ List.replicate (xs.length - i) ⟨false, [], [], []⟩)) xs.length (fun go i hi => by
    have h1 : (i : Int) < (xs.length : Int) := by omega
    have h2 : (0 : Int) ≤ (i : Int) := by omega
    have h3 : (i : Int) < ((xs.take i ++ List.replicate (xs.length - i) (⟨false, [], [], []⟩ : S101)).length : Int) := by simp; omega
    simp only [step47, h1, h2, h3, decide_true, cond_true, w64_up (show i < 9223372036854775807 by omega), rd101_at hi, to63 xs[i] k (hf _ (List.getElem_mem hi)), Option.bind_some, Int.toNat_natCast, set_next hi]) (k := k) (by omega)
  have e : run (step47 (f63 k)) k (J47.j3 xs 0 (List.replicate ((xs.length : Int)).toNat ⟨false, [], [], []⟩)) = run (step47 (f63 k)) k ((fun (i : Nat) => J47.j3 xs i (xs.take i ++ List.replicate (xs.length - i) ⟨false, [], [], []⟩)) 0) := rfl
  rw [e, this, run_pos _ (by omega)]
  simp [step47]


/-! ### Equalities -/
theorem eq147 (a b : S147) : ((a.f0 == b.f0) && ((a.f1 == b.f1) && ((a.f2 == b.f2) && ((a.f3 == b.f3) && true)))) = decide (a = b) := by
  cases a; cases b
  rw [Bool.eq_iff_iff]
  simp
theorem eq104 (k : Nat) (a b : S147) : f104 k (a, b) = some (decide (a = b)) := by
  rw [← eq147]
  show cond _ _ _ = _
  simp only [bne]
  cases (a.f0 == b.f0) <;> cases (a.f1 == b.f1) <;> cases (a.f2 == b.f2) <;> cases (a.f3 == b.f3) <;> rfl
theorem bne_dec (a b : Int) : (a != b) = !decide (a = b) := rfl

theorem eq36 (xs ys : List Int) (k : Nat) (hx : xs.length < 9223372036854775807) (hk : xs.length < k) : f36 k (xs, ys) = some (decide (xs = ys)) := by
  show cond (_ != _) _ _ = _
  by_cases hl : xs.length = ys.length
  · rw [show (((xs.length : Nat) : Int) != ((ys.length : Nat) : Int)) = false by simp [hl], cond_false]
    have := run_all (step := step36) (fun i => J36.j4 xs ys i) xs.length (fun i => decide (xs[i]? = ys[i]?)) (some false) (fun go i hi => by
      have h1 : (i : Int) < (xs.length : Int) := by omega
      have h2 : (0 : Int) ≤ (i : Int) := by omega
      have h3 : (i : Int) < (ys.length : Int) := by omega
      have h4 : i < ys.length := by omega
      simp only [step36, h1, h2, h3, decide_true, cond_true, w64_up (show i < 9223372036854775807 by omega), List.getElem?_eq_getElem hi, List.getElem?_eq_getElem h4, Option.some.injEq, rd3_at hi, rd3_at h4, bne_dec]
      cases hd : decide (xs[i] = ys[i]) <;> rfl) (k := k) (by omega)
    have e : run step36 k (J36.j4 xs ys 0) = run step36 k ((fun (i : Nat) => J36.j4 xs ys i) 0) := rfl
    rw [e, this, all_eq hl (fun i h => by simp [List.getElem?_eq_getElem h, List.getElem?_eq_getElem (hl ▸ h)]), run_pos _ (by omega)]
    by_cases e : xs = ys <;> simp [e, step36]
  · rw [show (((xs.length : Nat) : Int) != ((ys.length : Nat) : Int)) = true by simp; omega, cond_true]
    rw [decide_eq_false]
    rintro rfl
    exact hl rfl

theorem eq83 (xs ys : List ByteArray) (k : Nat) (hx : xs.length < 9223372036854775807) (hk : xs.length < k) : f83 k (xs, ys) = some (decide (xs = ys)) := by
  show cond (_ != _) _ _ = _
  by_cases hl : xs.length = ys.length
  · rw [show (((xs.length : Nat) : Int) != ((ys.length : Nat) : Int)) = false by simp [hl], cond_false]
    have := run_all (step := step83) (fun i => J83.j4 xs ys i) xs.length (fun i => decide (xs[i]? = ys[i]?)) (some false) (fun go i hi => by
      have h1 : (i : Int) < (xs.length : Int) := by omega
      have h2 : (0 : Int) ≤ (i : Int) := by omega
      have h3 : (i : Int) < (ys.length : Int) := by omega
      have h4 : i < ys.length := by omega
      simp only [step83, h1, h2, h3, decide_true, cond_true, w64_up (show i < 9223372036854775807 by omega), List.getElem?_eq_getElem hi, List.getElem?_eq_getElem h4, Option.some.injEq, rd9_at hi, rd9_at h4, bytes_eq]
      cases hd : decide (xs[i] = ys[i]) <;> rfl) (k := k) (by omega)
    have e : run step83 k (J83.j4 xs ys 0) = run step83 k ((fun (i : Nat) => J83.j4 xs ys i) 0) := rfl
    rw [e, this, all_eq hl (fun i h => by simp [List.getElem?_eq_getElem h, List.getElem?_eq_getElem (hl ▸ h)]), run_pos _ (by omega)]
    by_cases e : xs = ys <;> simp [e, step83]
  · rw [show (((xs.length : Nat) : Int) != ((ys.length : Nat) : Int)) = true by simp; omega, cond_true]
    rw [decide_eq_false]
    rintro rfl
    exact hl rfl

theorem eq82 (xs ys : List S147) (k : Nat) (hx : xs.length < 9223372036854775807) (hk : xs.length < k) : f82 k (xs, ys) = some (decide (xs = ys)) := by
  show cond (_ != _) _ _ = _
  by_cases hl : xs.length = ys.length
  · rw [show (((xs.length : Nat) : Int) != ((ys.length : Nat) : Int)) = false by simp [hl], cond_false]
    have := run_all (step := (step82 (f104 k))) (fun i => J82.j4 xs ys i) xs.length (fun i => decide (xs[i]? = ys[i]?)) (some false) (fun go i hi => by
      have h1 : (i : Int) < (xs.length : Int) := by omega
      have h2 : (0 : Int) ≤ (i : Int) := by omega
      have h3 : (i : Int) < (ys.length : Int) := by omega
      have h4 : i < ys.length := by omega
      simp only [step82, h1, h2, h3, decide_true, cond_true, w64_up (show i < 9223372036854775807 by omega), List.getElem?_eq_getElem hi, List.getElem?_eq_getElem h4, Option.some.injEq, rd76_at hi, rd76_at h4, eq104, Option.bind_some]
      cases hd : decide (xs[i] = ys[i]) <;> rfl) (k := k) (by omega)
    have e : run (step82 (f104 k)) k (J82.j4 xs ys 0) = run (step82 (f104 k)) k ((fun (i : Nat) => J82.j4 xs ys i) 0) := rfl
    rw [e, this, all_eq hl (fun i h => by simp [List.getElem?_eq_getElem h, List.getElem?_eq_getElem (hl ▸ h)]), run_pos _ (by omega)]
    by_cases e : xs = ys <;> simp [e, step82]
  · rw [show (((xs.length : Nat) : Int) != ((ys.length : Nat) : Int)) = true by simp; omega, cond_true]
    rw [decide_eq_false]
    rintro rfl
    exact hl rfl

theorem eq51 (xs ys : List Int) (k : Nat) (hx : xs.length < 9223372036854775807) (hk : xs.length < k) : f51 k (xs, ys) = some (decide (xs = ys)) := by
  show cond (_ != _) _ _ = _
  by_cases hl : xs.length = ys.length
  · rw [show (((xs.length : Nat) : Int) != ((ys.length : Nat) : Int)) = false by simp [hl], cond_false]
    have := run_all (step := step51) (fun i => J51.j4 xs ys xs.length i) xs.length (fun i => decide (xs[i]? = ys[i]?)) (some false) (fun go i hi => by
      have h1 : (i : Int) < (xs.length : Int) := by omega
      have h2 : (0 : Int) ≤ (i : Int) := by omega
      have h3 : (i : Int) < (ys.length : Int) := by omega
      have h4 : i < ys.length := by omega
      simp only [step51, h1, h2, h3, decide_true, cond_true, w64_up (show i < 9223372036854775807 by omega), List.getElem?_eq_getElem hi, List.getElem?_eq_getElem h4, Option.some.injEq, rd3_at hi, rd3_at h4, bne_dec]
      cases hd : decide (xs[i] = ys[i]) <;> rfl) (k := k) (by omega)
    have e : run step51 k (J51.j4 xs ys xs.length 0) = run step51 k ((fun (i : Nat) => J51.j4 xs ys xs.length i) 0) := rfl
    rw [e, this, all_eq hl (fun i h => by simp [List.getElem?_eq_getElem h, List.getElem?_eq_getElem (hl ▸ h)]), run_pos _ (by omega)]
    by_cases e : xs = ys <;> simp [e, step51]
  · rw [show (((xs.length : Nat) : Int) != ((ys.length : Nat) : Int)) = true by simp; omega, cond_true]
    rw [decide_eq_false]
    rintro rfl
    exact hl rfl

theorem eq52 (xs ys : List ByteArray) (k : Nat) (hx : xs.length < 9223372036854775807) (hk : xs.length < k) : f52 k (xs, ys) = some (decide (xs = ys)) := by
  show cond (_ != _) _ _ = _
  by_cases hl : xs.length = ys.length
  · rw [show (((xs.length : Nat) : Int) != ((ys.length : Nat) : Int)) = false by simp [hl], cond_false]
    have := run_all (step := step52) (fun i => J52.j4 xs ys xs.length i) xs.length (fun i => decide (xs[i]? = ys[i]?)) (some false) (fun go i hi => by
      have h1 : (i : Int) < (xs.length : Int) := by omega
      have h2 : (0 : Int) ≤ (i : Int) := by omega
      have h3 : (i : Int) < (ys.length : Int) := by omega
      have h4 : i < ys.length := by omega
      simp only [step52, h1, h2, h3, decide_true, cond_true, w64_up (show i < 9223372036854775807 by omega), List.getElem?_eq_getElem hi, List.getElem?_eq_getElem h4, Option.some.injEq, rd9_at hi, rd9_at h4, bytes_eq]
      cases hd : decide (xs[i] = ys[i]) <;> rfl) (k := k) (by omega)
    have e : run step52 k (J52.j4 xs ys xs.length 0) = run step52 k ((fun (i : Nat) => J52.j4 xs ys xs.length i) 0) := rfl
    rw [e, this, all_eq hl (fun i h => by simp [List.getElem?_eq_getElem h, List.getElem?_eq_getElem (hl ▸ h)]), run_pos _ (by omega)]
    by_cases e : xs = ys <;> simp [e, step52]
  · rw [show (((xs.length : Nat) : Int) != ((ys.length : Nat) : Int)) = true by simp; omega, cond_true]
    rw [decide_eq_false]
    rintro rfl
    exact hl rfl

theorem eq50 (xs ys : List S147) (k : Nat) (hx : xs.length < 9223372036854775807) (hk : xs.length < k) : f50 k (xs, ys) = some (decide (xs = ys)) := by
  show cond (_ != _) _ _ = _
  by_cases hl : xs.length = ys.length
  · rw [show (((xs.length : Nat) : Int) != ((ys.length : Nat) : Int)) = false by simp [hl], cond_false]
    have := run_all (step := step50) (fun i => J50.j4 xs ys xs.length i) xs.length (fun i => decide (xs[i]? = ys[i]?)) (some false) (fun go i hi => by
      have h1 : (i : Int) < (xs.length : Int) := by omega
      have h2 : (0 : Int) ≤ (i : Int) := by omega
      have h3 : (i : Int) < (ys.length : Int) := by omega
      have h4 : i < ys.length := by omega
      simp only [step50, h1, h2, h3, decide_true, cond_true, w64_up (show i < 9223372036854775807 by omega), List.getElem?_eq_getElem hi, List.getElem?_eq_getElem h4, Option.some.injEq, rd76_at hi, rd76_at h4, eq147]
      cases hd : decide (xs[i] = ys[i]) <;> rfl) (k := k) (by omega)
    have e : run step50 k (J50.j4 xs ys xs.length 0) = run step50 k ((fun (i : Nat) => J50.j4 xs ys xs.length i) 0) := rfl
    rw [e, this, all_eq hl (fun i h => by simp [List.getElem?_eq_getElem h, List.getElem?_eq_getElem (hl ▸ h)]), run_pos _ (by omega)]
    by_cases e : xs = ys <;> simp [e, step50]
  · rw [show (((xs.length : Nat) : Int) != ((ys.length : Nat) : Int)) = true by simp; omega, cond_true]
    rw [decide_eq_false]
    rintro rfl
    exact hl rfl

theorem eq101 (a b : S101) : (decide (a.f0 = b.f0) && (decide (a.f1 = b.f1) && (decide (a.f2 = b.f2) && decide (a.f3 = b.f3)))) = decide (a = b) := by
  cases a; cases b
  rw [Bool.eq_iff_iff]
  simp
theorem beq_dec (a b : Bool) : (a == b) = decide (a = b) := by cases a <;> cases b <;> rfl
theorem big {n m : Nat} (h : n * m ≤ 140737488351232) (h0 : 0 < m) : n < 9223372036854775807 := by
  have : n * 1 ≤ n * m := Nat.mul_le_mul_left _ h0
  omega
theorem eq64 (a b : S101) (k : Nat) (h : Fit101 a k) : f64 k (a, b) = some (decide (a = b)) := by
  rw [← eq101]
  show cond (!(a.f0 == b.f0)) _ _ = _
  rw [eq82 _ _ _ (big h.a2 (by decide)) h.a, Option.bind_some, eq36 _ _ _ (big h.g2 (by decide)) h.g, Option.bind_some, eq83 _ _ _ (big h.t2 (by decide)) h.t, Option.bind_some, beq_dec]
  cases decide (a.f0 = b.f0) <;> cases decide (a.f1 = b.f1) <;> cases decide (a.f2 = b.f2) <;> cases decide (a.f3 = b.f3) <;> rfl
theorem eq49 (a b : S101) (k : Nat) (h : Fit101 a k) : f49 k (a, b) = some (decide (a = b)) := by
  rw [← eq101]
  show cond (a.f0 == b.f0) _ _ = _
  rw [eq50 _ _ _ (big h.a2 (by decide)) h.a, Option.bind_some, eq51 _ _ _ (big h.g2 (by decide)) h.g, Option.bind_some, eq52 _ _ _ (big h.t2 (by decide)) h.t, Option.bind_some, beq_dec]
  cases decide (a.f0 = b.f0) <;> cases decide (a.f1 = b.f1) <;> cases decide (a.f2 = b.f2) <;> cases decide (a.f3 = b.f3) <;> rfl

theorem eq53 (xs ys : List S101) (k : Nat) (hx : xs.length < 9223372036854775807) (hk : xs.length < k) (hf : ∀ x ∈ xs, Fit101 x k) : f53 k (xs, ys) = some (decide (xs = ys)) := by
  show cond (_ != _) _ _ = _
  by_cases hl : xs.length = ys.length
  · rw [show (((xs.length : Nat) : Int) != ((ys.length : Nat) : Int)) = false by simp [hl], cond_false]
    have := run_all (step := (step53 (f64 k))) (fun i => J53.j4 xs ys i) xs.length (fun i => decide (xs[i]? = ys[i]?)) (some false) (fun go i hi => by
      have h1 : (i : Int) < (xs.length : Int) := by omega
      have h2 : (0 : Int) ≤ (i : Int) := by omega
      have h3 : (i : Int) < (ys.length : Int) := by omega
      have h4 : i < ys.length := by omega
      simp only [step53, h1, h2, h3, decide_true, cond_true, w64_up (show i < 9223372036854775807 by omega), List.getElem?_eq_getElem hi, List.getElem?_eq_getElem h4, Option.some.injEq, rd74_at hi, rd74_at h4, eq64 _ _ k (hf _ (List.getElem_mem hi)), Option.bind_some]
      cases hd : decide (xs[i] = ys[i]) <;> rfl) (k := k) (by omega)
    have e : run (step53 (f64 k)) k (J53.j4 xs ys 0) = run (step53 (f64 k)) k ((fun (i : Nat) => J53.j4 xs ys i) 0) := rfl
    rw [e, this, all_eq hl (fun i h => by simp [List.getElem?_eq_getElem h, List.getElem?_eq_getElem (hl ▸ h)]), run_pos _ (by omega)]
    by_cases e : xs = ys <;> simp [e, step53]
  · rw [show (((xs.length : Nat) : Int) != ((ys.length : Nat) : Int)) = true by simp; omega, cond_true]
    rw [decide_eq_false]
    rintro rfl
    exact hl rfl

theorem eq48 (xs ys : List S101) (k : Nat) (hx : xs.length < 9223372036854775807) (hk : xs.length < k) (hf : ∀ x ∈ xs, Fit101 x k) : f48 k (xs, ys, ()) = some (decide (xs = ys)) := by
  show cond (_ != _) _ _ = _
  by_cases hl : xs.length = ys.length
  · rw [show (((xs.length : Nat) : Int) != ((ys.length : Nat) : Int)) = false by simp [hl], cond_false]
    have := run_all (step := (step48 (f49 k))) (fun i => J48.j4 ys xs xs.length i) xs.length (fun i => decide (xs[i]? = ys[i]?)) (some false) (fun go i hi => by
      have h1 : (i : Int) < (xs.length : Int) := by omega
      have h2 : (0 : Int) ≤ (i : Int) := by omega
      have h3 : (i : Int) < (ys.length : Int) := by omega
      have h4 : i < ys.length := by omega
      simp only [step48, h1, h2, h3, decide_true, cond_true, w64_up (show i < 9223372036854775807 by omega), List.getElem?_eq_getElem hi, List.getElem?_eq_getElem h4, Option.some.injEq, rd74_at hi, rd74_at h4, eq49 _ _ k (hf _ (List.getElem_mem hi)), Option.bind_some]
      cases hd : decide (xs[i] = ys[i]) <;> rfl) (k := k) (by omega)
    have e : run (step48 (f49 k)) k (J48.j4 ys xs xs.length 0) = run (step48 (f49 k)) k ((fun (i : Nat) => J48.j4 ys xs xs.length i) 0) := rfl
    rw [e, this, all_eq hl (fun i h => by simp [List.getElem?_eq_getElem h, List.getElem?_eq_getElem (hl ▸ h)]), run_pos _ (by omega)]
    by_cases e : xs = ys <;> simp [e, step48]
  · rw [show (((xs.length : Nat) : Int) != ((ys.length : Nat) : Int)) = true by simp; omega, cond_true]
    rw [decide_eq_false]
    rintro rfl
    exact hl rfl

theorem in21 (i : Int) (xs ys : List S101) (a b : S101) (hl : a.f3.length = b.f3.length) (hb : a.f3.length < 9223372036854775807) (k : Nat) (hk : a.f3.length + 1 ≤ k) :
    run step22 k (J22.j21 i 0 xs ys a.f0 a.f1 a.f2 a.f3 b.f0 b.f1 b.f2 b.f3) = cond (decide (a.f3 = b.f3)) (run step22 (k - a.f3.length - 1) (J22.j4 (w64 (i + 1)) xs ys)) (some false) := by
  have := run_all (step := step22) (fun q => J22.j21 i q xs ys a.f0 a.f1 a.f2 a.f3 b.f0 b.f1 b.f2 b.f3) a.f3.length (fun q => decide (a.f3[q]? = b.f3[q]?)) (some false) (fun go q hi => by
    have h1 : (q : Int) < (a.f3.length : Int) := by omega
    have h2 : (0 : Int) ≤ (q : Int) := by omega
    have h3 : (q : Int) < (b.f3.length : Int) := by omega
    have h4 : q < b.f3.length := by omega
    simp only [step22, h1, h2, h3, decide_true, cond_true, w64_up (show q < 9223372036854775807 by omega), List.getElem?_eq_getElem hi, List.getElem?_eq_getElem h4, Option.some.injEq, rd9_at hi, rd9_at h4, bytes_eq]
    cases hd : decide (a.f3[q] = b.f3[q]) <;> rfl) (k := k) (by omega)
  have e : run step22 k (J22.j21 i 0 xs ys a.f0 a.f1 a.f2 a.f3 b.f0 b.f1 b.f2 b.f3) = run step22 k ((fun (q : Nat) => J22.j21 i q xs ys a.f0 a.f1 a.f2 a.f3 b.f0 b.f1 b.f2 b.f3) 0) := rfl
  rw [e, this, all_eq hl (fun i h => by simp [List.getElem?_eq_getElem h, List.getElem?_eq_getElem (hl ▸ h)]), run_pos _ (by omega)]
  simp only [step22, Int.lt_irrefl, decide_false, cond_false]

theorem in16 (i : Int) (xs ys : List S101) (a b : S101) (hl : a.f2.length = b.f2.length) (hb : a.f2.length < 9223372036854775807) (k : Nat) (hk : a.f2.length + 1 ≤ k) :
    run step22 k (J22.j16 i 0 xs ys a.f0 a.f1 a.f2 a.f3 b.f0 b.f1 b.f2 b.f3) = cond (decide (a.f2 = b.f2)) (run step22 (k - a.f2.length - 1) (J22.j21 i 0 xs ys a.f0 a.f1 a.f2 a.f3 b.f0 b.f1 b.f2 b.f3)) (some false) := by
  have := run_all (step := step22) (fun q => J22.j16 i q xs ys a.f0 a.f1 a.f2 a.f3 b.f0 b.f1 b.f2 b.f3) a.f2.length (fun q => decide (a.f2[q]? = b.f2[q]?)) (some false) (fun go q hi => by
    have h1 : (q : Int) < (a.f2.length : Int) := by omega
    have h2 : (0 : Int) ≤ (q : Int) := by omega
    have h3 : (q : Int) < (b.f2.length : Int) := by omega
    have h4 : q < b.f2.length := by omega
    simp only [step22, h1, h2, h3, decide_true, cond_true, w64_up (show q < 9223372036854775807 by omega), List.getElem?_eq_getElem hi, List.getElem?_eq_getElem h4, Option.some.injEq, rd3_at hi, rd3_at h4, bne_dec]
    cases hd : decide (a.f2[q] = b.f2[q]) <;> rfl) (k := k) (by omega)
  have e : run step22 k (J22.j16 i 0 xs ys a.f0 a.f1 a.f2 a.f3 b.f0 b.f1 b.f2 b.f3) = run step22 k ((fun (q : Nat) => J22.j16 i q xs ys a.f0 a.f1 a.f2 a.f3 b.f0 b.f1 b.f2 b.f3) 0) := rfl
  rw [e, this, all_eq hl (fun i h => by simp [List.getElem?_eq_getElem h, List.getElem?_eq_getElem (hl ▸ h)]), run_pos _ (by omega)]
  simp only [step22, Int.lt_irrefl, decide_false, cond_false]

theorem in11 (i : Int) (xs ys : List S101) (a b : S101) (hl : a.f1.length = b.f1.length) (hb : a.f1.length < 9223372036854775807) (k : Nat) (hk : a.f1.length + 1 ≤ k) :
    run step22 k (J22.j11 i 0 xs ys a.f0 a.f1 a.f2 a.f3 b.f0 b.f1 b.f2 b.f3) = cond (decide (a.f1 = b.f1)) (run step22 (k - a.f1.length - 1) (J22.j16 i 0 xs ys a.f0 a.f1 a.f2 a.f3 b.f0 b.f1 b.f2 b.f3)) (some false) := by
  have := run_all (step := step22) (fun q => J22.j11 i q xs ys a.f0 a.f1 a.f2 a.f3 b.f0 b.f1 b.f2 b.f3) a.f1.length (fun q => decide (a.f1[q]? = b.f1[q]?)) (some false) (fun go q hi => by
    have h1 : (q : Int) < (a.f1.length : Int) := by omega
    have h2 : (0 : Int) ≤ (q : Int) := by omega
    have h3 : (q : Int) < (b.f1.length : Int) := by omega
    have h4 : q < b.f1.length := by omega
    simp only [step22, h1, h2, h3, decide_true, cond_true, w64_up (show q < 9223372036854775807 by omega), List.getElem?_eq_getElem hi, List.getElem?_eq_getElem h4, Option.some.injEq, rd76_at hi, rd76_at h4, eq147]
    cases hd : decide (a.f1[q] = b.f1[q]) <;> rfl) (k := k) (by omega)
  have e : run step22 k (J22.j11 i 0 xs ys a.f0 a.f1 a.f2 a.f3 b.f0 b.f1 b.f2 b.f3) = run step22 k ((fun (q : Nat) => J22.j11 i q xs ys a.f0 a.f1 a.f2 a.f3 b.f0 b.f1 b.f2 b.f3) 0) := rfl
  rw [e, this, all_eq hl (fun i h => by simp [List.getElem?_eq_getElem h, List.getElem?_eq_getElem (hl ▸ h)]), run_pos _ (by omega)]
  simp only [step22, Int.lt_irrefl, decide_false, cond_false]

theorem len_ne {α : Type} [DecidableEq α] {a b : List α} (h : a.length ≠ b.length) : decide (a = b) = false := decide_eq_false (by rintro rfl; exact h rfl)
theorem bne_len {α : Type} (a b : List α) : (((a.length : Nat) : Int) != ((b.length : Nat) : Int)) = !decide (a.length = b.length) := by
  by_cases h : a.length = b.length <;> simp [h]; omega
theorem eq22_from (xs ys : List S101) (hl : xs.length = ys.length) (hx : xs.length < 9223372036854775807) (B : Nat) (hf : ∀ x ∈ xs, Fit101 x B) :
    ∀ d i k, i + d = xs.length → d * (3 * B + 5) < k → run step22 k (J22.j4 i xs ys) = some (decide (xs.drop i = ys.drop i))
  | 0, i, k + 1, h, _ => by
    have h0 : ¬ ((i : Int) < (xs.length : Int)) := by omega
    rw [run_succ]
    simp only [step22, h0, decide_false, cond_false, Nat.add_zero]
    rw [List.drop_eq_nil_of_le (by omega), List.drop_eq_nil_of_le (by omega)]
    rfl
  | d + 1, i, k + 1, h, hk => by
    have hi : i < xs.length := by omega
    have hj : i < ys.length := by omega
    have h1 : (i : Int) < (xs.length : Int) := by omega
    have h2 : (0 : Int) ≤ (i : Int) := by omega
    have h3 : (i : Int) < (ys.length : Int) := by omega
    have F := hf _ (List.getElem_mem hi)
    have f1 := F.a
    have f2 := F.g
    have f3 := F.t
    have e0 : decide (xs.drop i = ys.drop i) = (decide (xs[i] = ys[i]) && decide (xs.drop (i + 1) = ys.drop (i + 1))) := by
      rw [List.drop_eq_getElem_cons hi, List.drop_eq_getElem_cons hj, Bool.eq_iff_iff, Bool.and_eq_true, decide_eq_true_iff, decide_eq_true_iff, decide_eq_true_iff, List.cons.injEq]
    have hk2 : d * (3 * B + 5) + (3 * B + 5) < k + 1 := by rw [Nat.succ_mul] at hk; exact hk
    rw [run_succ, e0, ← eq101]
    simp only [step22, h1, h2, h3, decide_true, cond_true, rd74_at hi, rd74_at hj, bne_len, beq_dec]
    generalize hD : decide (xs.drop (i + 1) = ys.drop (i + 1)) = D
    cases d0 : decide (xs[i].f0 = ys[i].f0)
    · rfl
    by_cases l1 : xs[i].f1.length = ys[i].f1.length
    · by_cases l2 : xs[i].f2.length = ys[i].f2.length
      · by_cases l3 : xs[i].f3.length = ys[i].f3.length
        · simp only [l1, l2, l3, decide_true, Bool.not_true, cond_false]
          rw [run_pos _ (by omega)]
          simp only [step22]
          rw [in11 _ _ _ _ _ l1 (big F.a2 (by decide)) _ (by omega)]
          cases d1 : decide (xs[i].f1 = ys[i].f1)
          · rfl
          rw [cond_true, in16 _ _ _ _ _ l2 (big F.g2 (by decide)) _ (by omega)]
          cases d2 : decide (xs[i].f2 = ys[i].f2)
          · rfl
          rw [cond_true, in21 _ _ _ _ _ l3 (big F.t2 (by decide)) _ (by omega)]
          cases d3 : decide (xs[i].f3 = ys[i].f3)
          · rfl
          rw [cond_true, w64_up (by omega), eq22_from xs ys hl hx B hf d (i + 1) _ (by omega) (by omega), hD]
          rfl
        · simp [l1, l2, l3, len_ne l3]
      · simp [l1, l2, len_ne l2]
    · simp [l1, len_ne l1]
theorem eq22 (xs ys : List S101) (k : Nat) (hx : xs.length < 9223372036854775807) (B : Nat) (hk : xs.length * (3 * B + 5) < k) (hf : ∀ x ∈ xs, Fit101 x B) : f22 k (⟨xs⟩, ⟨ys⟩) = some (decide (xs = ys)) := by
  show cond (_ != _) _ (run step22 k (J22.j4 0 xs ys)) = _
  rw [bne_len]
  by_cases hl : xs.length = ys.length
  · rw [decide_eq_true hl]
    exact eq22_from xs ys hl hx B hf xs.length 0 k (by omega) hk
  · rw [decide_eq_false hl, len_ne hl]
    rfl

/-! ### The law -/
def FitV (x : S45) : Prop := x.f0.length * 80 ≤ 140737488351232 ∧ ∀ z ∈ x.f0, z.f1.length * 24 ≤ 140737488351232 ∧ z.f2.length * 8 ≤ 140737488351232 ∧ z.f3.length * 16 ≤ 140737488351232
theorem law6 (x y : S45) (hx : FitV x) (hy : FitV y) : ∃ k, f6 k (x, y) = some true := by
  obtain ⟨x⟩ := x
  obtain ⟨y⟩ := y
  let B := 140737488351232
  let k := 140737488351232 * (3 * 140737488351232 + 5) + 140737488351232 * 140737488351232
  have fit : ∀ z : S45, FitV z → ∀ w ∈ z.f0, Fit101 w (B + 1) := fun z hz w hw => by
    obtain ⟨h1, h2, h3⟩ := hz.2 w hw
    exact ⟨by omega, by omega, by omega, h1, h2, h3⟩
  have up : ∀ {w : S101} {n : Nat}, Fit101 w n → n ≤ k → Fit101 w k := fun h hn => ⟨by have := h.a; omega, by have := h.g; omega, by have := h.t; omega, h.a2, h.g2, h.t2⟩
  have fx := fit _ hx
  have fy := fit _ hy
  have hBk : B + 1 ≤ k := by decide
  have ux : ∀ w ∈ x, Fit101 w k := fun w hw => up (fx w hw) hBk
  have uy : ∀ w ∈ y, Fit101 w k := fun w hw => up (fy w hw) hBk
  have lx : x.length ≤ B := by have := hx.1; simp only at this; omega
  have ly : y.length ≤ B := by have := hy.1; simp only at this; omega
  have kx : x.length < k := by omega
  have ky : y.length < k := by omega
  have mx : x.length * (3 * (B + 1) + 5) < k := Nat.lt_of_le_of_lt (Nat.mul_le_mul_right _ lx) (by decide)
  have t23 : ∀ z : List S101, z.length * 80 ≤ 140737488351232 → z.length < k → (∀ w ∈ z, Fit101 w k) → f23 k ⟨z⟩ = some ⟨z⟩ := fun z h1 h2 h3 => by
    show Option.bind _ _ = _
    rw [to47 z k h1 h2 h3]
    rfl
  have t25 : ∀ z : List S101, z.length * 80 ≤ 140737488351232 → z.length < k → (∀ w ∈ z, Fit101 w k) → f25 k (⟨z⟩, ⟨z⟩) = some true := fun z h1 h2 h3 => by
    show Option.bind _ _ = _
    rw [eq53 z z k (big h1 (by decide)) h2 h3]
    simp
  have s21 : ∀ (z : List S101) (q : Int), z.length * 80 ≤ 140737488351232 → z.length < k → (∀ w ∈ z, Fit101 w k) → ∃ r, f21 k (⟨z⟩, q) = some r := fun z q h1 h2 h3 => by
    show ∃ r, Option.bind _ _ = some r
    obtain ⟨r, e⟩ := sz46 z q k (big h1 (by decide)) h2 h3
    rw [e, Option.bind_some]
    cases decide (r < 0) <;> exact ⟨_, rfl⟩
  have t24 : f24 k (⟨x⟩, ⟨y⟩) = some (decide (x = y)) := by
    show Option.bind _ _ = _
    rw [eq48 x y k (big hx.1 (by decide)) kx ux]
    rfl
  have t22 := eq22 x y k (big hx.1 (by decide)) (B + 1) mx fx
  refine ⟨k, ?_⟩
  show Option.bind _ _ = _
  obtain ⟨r0, e0⟩ := s21 x 1048576 hx.1 kx ux
  rw [e0, Option.bind_some]
  cases decide (r0 < 0)
  · obtain ⟨r1, e1⟩ := s21 y r0 hy.1 ky uy
    rw [cond_false, e1, Option.bind_some]
    cases decide (r1 < 0)
    · have tx := t23 x hx.1 kx ux
      have ty := t23 y hy.1 ky uy
      have vx := t25 x hx.1 kx ux
      have vy := t25 y hy.1 ky uy
      simp only [cond_false, tx, ty, t22, t24, vx, vy, Option.bind_some, beq_self_eq_true, Bool.not_true, cond_false]
    · rfl
  · rfl
theorem fit_of {x : S45} (h : B45 x) : FitV x := ⟨h.b0.1, fun z hz => ⟨(h.b0.2 z hz).b1.1, (h.b0.2 z hz).b2.1, (h.b0.2 z hz).b3.1⟩⟩
theorem law_FnExactBytesSame (x0 x1 : S45) (h0 : B45 x0) (h1 : B45 x1) : ∃ k, f6 k (x0, x1) = some true := law6 x0 x1 (fit_of h0) (fit_of h1)
end Go.Sx
