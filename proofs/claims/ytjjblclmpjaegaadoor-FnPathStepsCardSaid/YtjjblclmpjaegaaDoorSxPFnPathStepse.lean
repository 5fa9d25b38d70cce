/- The plain law FnPathSteps, over what its functions compute: a part. No further condition. -/
import Derived.Test.YtjjblclmpjaegaaDoorSxPFnPathStepsd
import Derived.Test.YtjjblclmpjaegaaDoorSxBFnPathSteps
set_option linter.unusedVariables false
set_option linter.unusedSimpArgs false
namespace Go.Sx
open Go.RowKit Go.Lib
set_option linter.unusedVariables false
set_option linter.unusedSimpArgs false
/-- Pieces put together again. -/
def jl : List (List UInt8) → List UInt8
  | [] => []
  | [p] => p
  | p :: q :: r => p ++ 47 :: jl (q :: r)
theorem jl_cons (b : UInt8) (p : List UInt8) (ps : List (List UInt8)) : jl ((b :: p) :: ps) = b :: jl (p :: ps) := by
  cases ps <;> rfl
theorem jl_spl : ∀ l, jl (spl l) = l
  | [] => rfl
  | b :: l => by
    have ih := jl_spl l
    unfold spl
    by_cases h : b = 47
    · rw [if_pos h]
      cases hs : spl l with
      | nil => exact absurd hs (spl_ne l)
      | cons p ps =>
        rw [hs] at ih
        show [] ++ 47 :: jl (p :: ps) = b :: l
        rw [ih, h]
        rfl
    · rw [if_neg h]
      cases hs : spl l with
      | nil => exact absurd hs (spl_ne l)
      | cons p ps =>
        rw [hs] at ih
        simp only [jl_cons, ih]
theorem jl_snoc : ∀ (ps : List (List UInt8)) (q : List UInt8), ps ≠ [] → jl (ps ++ [q]) = jl ps ++ 47 :: q
  | [], q, h => absurd rfl h
  | [p], q, _ => rfl
  | p :: p2 :: r, q, _ => by
    have := jl_snoc (p2 :: r) q (by simp)
    show p ++ 47 :: jl ((p2 :: r) ++ [q]) = (p ++ 47 :: jl (p2 :: r)) ++ 47 :: q
    rw [this]
    simp
theorem app_data (a b : ByteArray) : (a ++ b).data.toList = a.data.toList ++ b.data.toList := by
  rw [ByteArray.data_append]
  simp
/-- The loop that puts them together. -/
theorem join_loop {g5 g6 : ByteArray → Option RP} {g10 : List Int → Option ByteArray} {g11 : List ByteArray × List ByteArray → Option Bool} (s : ByteArray) (top : Bool) (xs : List ByteArray) (hx : ∀ x ∈ xs, x.size ≤ 100) (hl : xs.length ≤ 6) : ∀ (d i k : Nat) (acc : ByteArray), i + d = xs.length → 2 * d < k →
    acc.size ≤ 101 * i → acc.data.toList = jl ((xs.take i).map (·.data.toList)) →
    ∃ t : ByteArray, t.data.toList = jl (xs.map (·.data.toList)) ∧ run (step4 g5 g6 g10 g11) k (J4.j11 s top acc i xs) = some (decide ((cond top (⟨#[47]⟩ ++ t) t) = s))
  | 0, i, k, acc, h, hk, ha, hj => by
    obtain ⟨k, rfl⟩ : ∃ m, k = m + 1 := ⟨k - 1, by omega⟩
    have h0 : ¬ (i : Int) < ((xs.length : Nat) : Int) := by omega
    refine ⟨acc, by rw [hj, List.take_of_length_le (by omega)], ?_⟩
    rw [run_succ]
    have h6 : (((xs.length : Nat) : Int) : Int) ≤ 6 := by omega
    have h1 : (⟨#[47]⟩ : ByteArray).size + acc.size ≤ 9223372036854775807 := by have : (⟨#[47]⟩ : ByteArray).size = 1 := rfl; omega
    simp only [step4, h0, decide_false, cond_false, h1, decide_true, cond_true, h6, bytes_eq]
    cases top <;> simp only [cond_true, cond_false]
    · cases decide (acc = s) <;> rfl
    · cases decide ((⟨#[47]⟩ ++ acc : ByteArray) = s) <;> rfl
  | d + 1, i, k, acc, h, hk, ha, hj => by
    obtain ⟨k, rfl⟩ : ∃ m, k = m + 1 + 1 := ⟨k - 2, by omega⟩
    have h0 : (i : Int) < ((xs.length : Nat) : Int) := by omega
    have h1 : (0 : Int) ≤ (i : Int) := by omega
    have hi : i < xs.length := by omega
    have hz := hx _ (List.getElem_mem hi)
    have step : ∀ a : ByteArray, a.size ≤ 101 * i + 1 → run (step4 g5 g6 g10 g11) (k + 1) (J4.j15 s top a i xs) = run (step4 g5 g6 g10 g11) k (J4.j11 s top (a ++ xs[i]) ((i + 1 : Nat) : Int) xs) := by
      intro a hs
      rw [run_succ]
      have h2 : a.size + (xs[i]).size ≤ 9223372036854775807 := by omega
      simp only [step4, h0, h1, decide_true, cond_true, rd9_at hi, h2]
      rw [w64_id (by omega) (by omega)]
      rfl
    rw [run_succ]
    simp only [step4, h0, decide_true, cond_true]
    by_cases c : i = 0
    · subst c
      have c1 : ¬ (((0 : Nat) : Int) > 0) := by omega
      simp only [c1, decide_false, cond_false]
      rw [step acc (by omega)]
      refine join_loop s top xs hx hl d (0 + 1) k (acc ++ xs[0]) (by omega) (by omega) (by rw [ByteArray.size_append]; omega) ?_
      rw [app_data, hj]
      rw [List.take_add_one, List.getElem?_eq_getElem hi]
      rfl
    · have c1 : ((i : Int) > 0) := by omega
      have h2 : acc.size + (⟨#[47]⟩ : ByteArray).size ≤ 9223372036854775807 := by have : (⟨#[47]⟩ : ByteArray).size = 1 := rfl; omega
      have h3 : (acc ++ (⟨#[47]⟩ : ByteArray)).size = acc.size + 1 := by rw [ByteArray.size_append]; rfl
      simp only [c1, h2, decide_true, cond_true]
      rw [step _ (by omega)]
      have h4 : ((acc ++ (⟨#[47]⟩ : ByteArray)) ++ xs[i]).size ≤ 101 * (i + 1) := by
        rw [ByteArray.size_append, h3]
        omega
      refine join_loop s top xs hx hl d (i + 1) k _ (by omega) (by omega) h4 ?_
      rw [app_data, app_data, hj, List.take_add_one, List.getElem?_eq_getElem hi]
      simp only [Option.toList_some, List.map_append, List.map_cons, List.map_nil]
      rw [jl_snoc _ _ (by
        intro e
        have := congrArg List.length e
        rw [List.length_map, List.length_take, List.length_nil] at this
        omega)]
      simp
theorem same_loop2 (xs : List ByteArray) (hl : xs.length ≤ 1000000) : ∀ (d i k : Nat), i + d = xs.length → d < k → run step11 k (J11.j4 xs xs i) = some true
  | 0, i, k + 1, h, hk => by
    have h0 : ¬ (i : Int) < ((xs.length : Nat) : Int) := by omega
    rw [run_succ]
    simp only [step11, h0, decide_false, cond_false]
  | d + 1, i, k + 1, h, hk => by
    have h0 : (i : Int) < ((xs.length : Nat) : Int) := by omega
    have h1 : (0 : Int) ≤ (i : Int) := by omega
    rw [run_succ]
    simp only [step11, h0, h1, decide_true, cond_true, BEq.rfl, Bool.not_true, cond_false]
    rw [w64_id (by omega) (by omega)]
    exact same_loop2 xs hl d (i + 1) k (by omega) (by omega)
theorem f11_eq (xs : List ByteArray) (hl : xs.length ≤ 1000000) {k : Nat} (hk : xs.length < k) : f11 k (xs, xs) = some true := by
  have := same_loop2 xs hl xs.length 0 k (by omega) hk
  show cond (((xs.length : Nat) : Int) != ((xs.length : Nat) : Int)) (some false) (run step11 k (J11.j4 xs xs 0)) = _
  rw [show (J11.j4 xs xs 0) = J11.j4 xs xs ((0 : Nat) : Int) from rfl, this, bne_self_eq_false]
  rfl
/-- A path that is told is its steps. -/
theorem path_back (s : ByteArray) : cond (topP s) (⟨#[47]⟩ ++ restP s) (restP s) = s := by
  cases h : topP s with
  | false =>
    refine data_inj ?_
    show Lib.trimPrefix s.data.toList [47] = _
    unfold Lib.trimPrefix
    rw [if_neg (by rw [show Lib.hasPrefix s.data.toList [47] = false from h]; decide)]
  | true =>
    refine data_inj ?_
    rw [cond_true, app_data]
    show [47] ++ Lib.trimPrefix s.data.toList [47] = _
    unfold Lib.trimPrefix
    have h' : Lib.hasPrefix s.data.toList [47] = true := h
    rw [if_pos h']
    unfold Lib.hasPrefix at h'
    cases hs : s.data.toList with
    | nil => rw [hs] at h'; cases h'
    | cons b l =>
      rw [hs] at h'
      simp [List.isPrefixOf] at h'
      rw [← h']
      rfl
theorem val_back (s : ByteArray) (h : (valP s).2.2.1 = true) : (valP s).1 = topP s ∧ (∀ p ∈ (valP s).2.1, p.size ≤ s.size) ∧ jl ((valP s).2.1.map (·.data.toList)) = (restP s).data.toList := by
  revert h
  unfold valP
  by_cases c : (restP s).size = 0
  · simp only [c, decide_true, cond_true]
    intro _
    refine ⟨trivial, fun p hp => by simp at hp, ?_⟩
    have : (restP s).data.size = 0 := c
    rw [Array.eq_empty_of_size_eq_zero this]
    rfl
  · simp only [c, decide_false, cond_false]
    cases ((pcs (restP s) (restP s).size 0 0).all okP && decide ((pcs (restP s) (restP s).size 0 0).length ≤ 6))
    · intro h; cases h
    · intro _
      refine ⟨rfl, fun p hp => ?_, ?_⟩
      · have := pcs_small (restP s) (restP s).size 0 0 (by omega) p hp
        have := rest_le s
        omega
      · obtain ⟨p, ps, h1, h2⟩ := pcs_spl (restP s) (restP s).size 0 0 (by omega) (Nat.le_refl _)
        simp only [cond_true]
        rw [h2]
        simp only [List.drop_zero, Nat.sub_self, List.take_zero, List.nil_append] at h1 ⊢
        rw [← h1, jl_spl]
theorem law_FnPathSteps (x0 : List Int) (h0 : (x0.length * 1 ≤ 140737488351232 ∧ ∀ z ∈ x0, B5 z)) : ∃ k, f4 k x0 = some true := by
  by_cases hs : x0.length ≤ 1048576
  · have hx : ∀ z ∈ x0, 0 ≤ z ∧ z ≤ 255 := fun z hz => by
      have := h0.2 z hz
      unfold B5 at this
      simp [Lit.wf, IntKind.min, IntKind.max, IntKind.signed, IntKind.bits] at this
      omega
    have hsz : ¬ ((x0.length : Nat) : Int) > 1048576 := by omega
    obtain ⟨s, hd, hs100⟩ := steps_draw 1999 x0 hx
    have e5 := spec_val s (by omega) (k := 2000) (by omega)
    have e6 := impl_val s (by omega) (k := 2000) (by omega)
    have hv := valP_len s
    have hb := val_back s
    have e11 := f11_eq (valP s).2.1 (by omega) (k := 2000) (by omega)
    refine ⟨2000, ?_⟩
    generalize valP s = v at e5 e6 hv hb e11
    have hd' : f10 2000 x0 = some s := hd
    simp only [f4, start4, hsz, decide_false, cond_false, hd', e5, e6, Option.bind_some, e11, BEq.rfl, cond_true]
    rw [show run (step4 (f5 2000) (f6 2000) (f10 2000) (f11 2000)) 2000 = run (step4 (f5 2000) (f6 2000) (f10 2000) (f11 2000)) (1998 + 1 + 1) from rfl]
    rw [run_succ]
    simp only [step4, Bool.not_true, cond_false]
    cases hok : v.2.2.1 with
    | false => rfl
    | true =>
      simp only [Bool.not_true, cond_false]
      obtain ⟨b1, b2, b3⟩ := hb hok
      rw [run_succ]
      simp only [step4]
      obtain ⟨t, t1, t2⟩ := join_loop (g5 := f5 2000) (g6 := f6 2000) (g10 := f10 2000) (g11 := f11 2000) s v.1 v.2.1 (fun p hp => by have := b2 p hp; omega) hv v.2.1.length 0 1998 ⟨#[]⟩ (by omega) (by omega) (Nat.zero_le _) rfl
      rw [show (J4.j11 s v.1 ⟨#[]⟩ 0 v.2.1) = J4.j11 s v.1 ⟨#[]⟩ ((0 : Nat) : Int) v.2.1 from rfl, t2]
      have : t = restP s := data_inj (t1.trans b3)
      rw [this, b1, path_back s]
      simp
  · refine ⟨0, ?_⟩
    have hsz : ((x0.length : Nat) : Int) > 1048576 := by omega
    simp only [f4, start4, hsz, decide_true, cond_true]
end Go.Sx
