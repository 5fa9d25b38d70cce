/- The plain law FnPathSteps, over what its functions compute: a part. No further condition. -/
import Derived.Test.YtjjblclmpjaegaaDoorSxPFnPathStepsb
set_option linter.unusedVariables false
set_option linter.unusedSimpArgs false
namespace Go.Sx
open Go.RowKit Go.Lib
set_option linter.unusedVariables false
set_option linter.unusedSimpArgs false
def topP (x : ByteArray) : Bool := Lib.hasPrefix x.data.toList [47]
def restP (x : ByteArray) : ByteArray := ⟨(Lib.trimPrefix x.data.toList [47]).toArray⟩
theorem rest_le (x : ByteArray) : (restP x).size ≤ x.size := by
  have := Lib.trimPrefix_le x.data.toList [47]
  show (Lib.trimPrefix x.data.toList [47]).toArray.size ≤ x.data.size
  simpa using this
theorem f13_eq (k : Nat) (x : ByteArray) : f13 k (x, ⟨#[47]⟩) = some (restP x, topP x) := rfl
theorem empty_toList (s : ByteArray) : (s.toList == ((⟨#[]⟩ : ByteArray)).toList) = decide (s.size = 0) := by
  rw [bytes_eq]
  refine decide_eq_decide.2 ⟨fun h => by rw [h]; rfl, fun h => ?_⟩
  cases s with
  | mk a =>
    have : a.size = 0 := h
    rw [Array.eq_empty_of_size_eq_zero this]
/-- What both say of a path. -/
def valP (x : ByteArray) : RP := cond (decide ((restP x).size = 0)) (topP x, ([], (true, ())))
  (cond ((pcs (restP x) (restP x).size 0 0).all okP && decide ((pcs (restP x) (restP x).size 0 0).length ≤ 6)) (topP x, (pcs (restP x) (restP x).size 0 0, (true, ()))) (false, ([], (false, ()))))
theorem valP_len (x : ByteArray) : (valP x).2.1.length ≤ 6 := by
  unfold valP
  cases decide ((restP x).size = 0)
  · cases h : ((pcs (restP x) (restP x).size 0 0).all okP && decide ((pcs (restP x) (restP x).size 0 0).length ≤ 6))
    · simp
    · simp only [Bool.and_eq_true, decide_eq_true_eq] at h
      exact h.2
  · simp
theorem spec_val (x : ByteArray) (hx : x.size ≤ 1048576) {k : Nat} (hk : 8 * x.size + 100 ≤ k) : f5 k x = some (valP x) := by
  obtain ⟨k, rfl⟩ : ∃ m, k = m + 1 + 1 := ⟨k - 2, by omega⟩
  have hg : ∀ p : ByteArray, p.size ≤ x.size → f12 (k + 1 + 1) p = some (nmFine p) := fun p hp => name_spec p (by omega) (by omega)
  have loop : ∀ (s : ByteArray) (b : Bool), s.size ≤ x.size → run (step5 (f12 (k + 1 + 1))) (k + 1) (J5.j5 s b []) = some (cond (decide (s.size = 0)) (b, ([], (true, ()))) (cond ((pcs s s.size 0 0).all okP && decide ((pcs s s.size 0 0).length ≤ 6)) (b, (pcs s s.size 0 0, (true, ()))) (false, ([], (false, ()))))) := by
    intro s b hs
    rw [run_succ]
    simp only [step5]
    by_cases c : s.size = 0
    · obtain ⟨k, rfl⟩ : ∃ m, k = m + 1 := ⟨k - 1, by omega⟩
      rw [run_succ]
      simp only [step5, empty_toList, c, decide_true, cond_true, Bool.not_true, cond_false]
      rfl
    · have := spec_loop s (by omega) (by rw [empty_toList]; simp [c]) (fun p hp => hg p (by omega)) b s.size 0 0 [] k (by omega) (Nat.le_refl _) (by simp) (by omega)
      rw [show (J5.j7 s b 0 0 []) = J5.j7 s b ((0 : Nat) : Int) ((0 : Nat) : Int) [] from rfl, this]
      simp only [c, decide_false, cond_false, List.nil_append, List.length_nil, Nat.zero_add]
      cases ((pcs s s.size 0 0).all okP && decide ((pcs s s.size 0 0).length ≤ 6)) <;> rfl
  show cond (decide (((x.size : Nat) : Int) > 0)) (cond (decide ((0 : Int) < ((x.size : Nat) : Int))) (run (step5 (f12 (k + 1 + 1))) (k + 1 + 1) (J5.j3 x ((bt x 0 : Int) == 47) [])) none) (run (step5 (f12 (k + 1 + 1))) (k + 1 + 1) (J5.j3 x false [])) = _
  simp only [run_succ _ (k + 1)]
  by_cases c : x.size = 0
  · have h0 : ¬ ((x.size : Nat) : Int) > 0 := by omega
    simp only [step5, h0, decide_false, cond_false]
    rw [loop x false (Nat.le_refl _)]
    have hl : x.data.toList = [] := by
      have : x.data.size = 0 := c
      simp [Array.eq_empty_of_size_eq_zero this]
    have e1 : topP x = false := by unfold topP; rw [hl]; rfl
    have e2 : restP x = x := data_inj (by unfold restP; rw [hl]; rfl)
    unfold valP
    rw [e1, e2]
  · have h0 : ((x.size : Nat) : Int) > 0 := by omega
    have h1 : (0 : Int) < ((x.size : Nat) : Int) := by omega
    have hl := get_list (s := x) (i := 0) (by omega)
    rw [List.drop_zero] at hl
    have hb : bt x 0 = ((x.get! 0).toNat : Int) := bt_get (i := 0) (by omega)
    simp only [step5, h0, h1, decide_true, cond_true, hb]
    by_cases c2 : x.get! 0 = 47
    · have c3 : (((x.get! 0).toNat : Int) == 47) = true := by rw [c2]; rfl
      have h2 : (1 : Int) ≤ ((x.size : Nat) : Int) := by omega
      simp only [c3, cond_true, h2, decide_true]
      have e1 : topP x = true := by unfold topP Lib.hasPrefix; rw [hl, c2]; rfl
      have e2 : restP x = x.extract 1 x.size := by
        refine data_inj ?_
        rw [ext_list]
        show Lib.trimPrefix x.data.toList [47] = _
        unfold Lib.trimPrefix
        rw [if_pos (show Lib.hasPrefix x.data.toList [47] = true from e1)]
        rw [List.take_of_length_le]
        · rfl
        · simp only [List.length_drop, Array.length_toList]
          exact Nat.le_refl _
      rw [loop _ true (by simp only [ByteArray.size_extract]; omega)]
      unfold valP
      rw [e1, e2]
    · have c3 : (((x.get! 0).toNat : Int) == 47) = false := by
        rw [beq_eq_false_iff_ne]
        intro e
        exact c2 (UInt8.toNat.inj (by show (x.get! 0).toNat = 47; omega))
      simp only [c3, cond_false]
      have e1 : topP x = false := by unfold topP Lib.hasPrefix; rw [hl]; simp [List.isPrefixOf]; exact fun e => c2 e.symm
      have e2 : restP x = x := data_inj (by
        show Lib.trimPrefix x.data.toList [47] = _
        unfold Lib.trimPrefix
        rw [if_neg (by rw [show Lib.hasPrefix x.data.toList [47] = false from e1]; decide)])
      rw [loop x false (Nat.le_refl _)]
      unfold valP
      rw [e1, e2]
theorem f16_eq (k : Nat) (p : ByteArray) : f16 k p = some (!okP p) := by
  show cond (!(p.toList == dotdot.toList)) ((f17 k p).bind fun r0 => some (!r0)) (some false) = _
  have : f17 k p = some (nmFine p) := rfl
  rw [this]
  unfold okP
  cases (p.toList == dotdot.toList) <;> simp
theorem find_bad (xs : List ByteArray) (hl : xs.length ≤ 1000000) (K : Nat) : ∀ d i k, i + d = xs.length → d < k → ∃ r : Int, run (step26 (f16 K)) k (J26.j2 xs ((xs.length : Nat) : Int) i) = some r ∧ decide (r ≥ 0) = !(xs.drop i).all okP
  | 0, i, k + 1, h, hk => by
    have h0 : ¬ (i : Int) < ((xs.length : Nat) : Int) := by omega
    rw [run_succ]
    simp only [step26, h0, decide_false, cond_false]
    refine ⟨-1, rfl, ?_⟩
    rw [List.drop_eq_nil_of_le (by omega)]
    rfl
  | d + 1, i, k + 1, h, hk => by
    have h0 : (i : Int) < ((xs.length : Nat) : Int) := by omega
    have h1 : (0 : Int) ≤ (i : Int) := by omega
    have hi : i < xs.length := by omega
    rw [run_succ]
    simp only [step26, h0, h1, decide_true, cond_true, rd9_at hi, f16_eq, Option.bind_some]
    rw [List.drop_eq_getElem_cons hi, List.all_cons]
    cases okP xs[i]
    · exact ⟨i, rfl, by simp⟩
    · obtain ⟨r, h2, h3⟩ := find_bad xs hl K d (i + 1) k (by omega) (by omega)
      refine ⟨r, ?_, by simpa using h3⟩
      rw [w64_id (by omega) (by omega)]
      exact h2
theorem f15_eq (xs : List ByteArray) (hl : xs.length ≤ 1000000) {k : Nat} (hk : xs.length < k) : f15 k (xs, ()) = some (!xs.all okP) := by
  obtain ⟨r, h1, h2⟩ := find_bad xs hl k xs.length 0 k (by omega) hk
  show (run (step26 (f16 k)) k (J26.j2 xs ((xs.length : Nat) : Int) 0)).bind (fun r0 => some (decide (r0 ≥ 0))) = _
  rw [show (J26.j2 xs ((xs.length : Nat) : Int) 0) = J26.j2 xs ((xs.length : Nat) : Int) ((0 : Nat) : Int) from rfl, h1]
  simp only [Option.bind_some, h2, List.drop_zero]
theorem impl_val (x : ByteArray) (hx : x.size ≤ 1048576) {k : Nat} (hk : 8 * x.size + 100 ≤ k) : f6 k x = some (valP x) := by
  have hr := rest_le x
  simp only [f6, start6, f13_eq, Option.bind_some, empty_toList]
  unfold valP
  by_cases c : (restP x).size = 0
  · simp only [c, decide_true, cond_true]
  · simp only [c, decide_false, cond_false]
    have e : f14 k (restP x, ⟨#[47]⟩) = some (pcs (restP x) (restP x).size 0 0, ()) := by
      show cond (decide ((restP x).size < 4294967281)) (some (Lib.splitB ⟨#[47]⟩ 0 (Lib.countB (restP x) ⟨#[47]⟩) (restP x), ())) none = _
      rw [decide_eq_true (show (restP x).size < 4294967281 by omega), split_pcs]
      rfl
    rw [e]
    simp only [Option.bind_some]
    generalize pcs (restP x) (restP x).size 0 0 = ps
    by_cases c6 : ps.length ≤ 6
    · have h1 : ¬ ((ps.length : Nat) : Int) > 6 := by omega
      simp only [h1, decide_false, cond_false, f15_eq ps (by omega) (show ps.length < k by omega), Option.bind_some, c6, decide_true, Bool.and_true]
      cases ps.all okP <;> rfl
    · have h1 : ((ps.length : Nat) : Int) > 6 := by omega
      simp only [h1, decide_true, cond_true, c6, decide_false, Bool.and_false, cond_false]
end Go.Sx
