/- The plain law FnExactPathSteps, over what its functions compute: a part. No further condition. -/
import Derived.Test.YtjjblclmpjaegaaDoorSxPFnExactPathStepsc
import Derived.Test.YtjjblclmpjaegaaDoorSxBFnExactPathSteps
set_option linter.unusedVariables false
set_option linter.unusedSimpArgs false
namespace Go.Sx
open Go.RowKit Go.Lib
set_option linter.unusedVariables false
set_option linter.unusedSimpArgs false
/-- The mark of a small number. -/
def mkP (m : Int) : ByteArray := (⟨#[109]⟩ : ByteArray) ++ (strOfNums (List.map (fun x => x) [(IntKind.wrap .u8 (w64 (48 + (Int.tmod m 10))))]) ++ (⟨#[]⟩ : ByteArray))
theorem mark_eq (k : Nat) (m : Nat) (h0 : 1 ≤ m) (h1 : m ≤ 9) : f18 (k + 2) (m : Int) = some (mkP m) := by
  have h2 : ¬ (m : Int) ≤ 0 := by omega
  have h3 : (m : Int) > 0 := by omega
  have hs : ∀ l : List Int, l.length = 1 → ((strOfNums l).size + (⟨#[]⟩ : ByteArray).size) ≤ 9223372036854775807 := fun l hl => by rw [strOfNums_size, hl]; decide
  have hq : w64 (Int.tdiv (m : Int) 10) = 0 := by
    have : Int.tdiv (m : Int) 10 = 0 := by
      rw [show (m : Int).tdiv 10 = ((m / 10 : Nat) : Int) from rfl]
      omega
    rw [this]
    rfl
  show cond (decide ((m : Int) ≤ 0)) (some (⟨#[109, 48]⟩ : ByteArray)) (run step18 (k + 2) (J18.j4 (m : Int) (⟨#[]⟩ : ByteArray))) = _
  simp only [h2, decide_false, cond_false, run_succ _ (k + 1)]
  have h4 : ∀ l : List Int, l.length = 1 → ((⟨#[109]⟩ : ByteArray).size + (strOfNums l ++ (⟨#[]⟩ : ByteArray)).size) ≤ 9223372036854775807 := fun l hl => by rw [ByteArray.size_append, strOfNums_size, hl]; decide
  simp only [step18, h3, decide_true, cond_true, hs _ (rfl : (List.map (fun x => x) [(IntKind.wrap .u8 (w64 (48 + (Int.tmod (m : Int) 10))))]).length = 1), hq, h4 _ (rfl : (List.map (fun x => x) [(IntKind.wrap .u8 (w64 (48 + (Int.tmod (m : Int) 10))))]).length = 1)]
  rw [run_succ]
  have h5 : ¬ ((0 : Int) > 0) := by decide
  simp only [step18, h5, decide_false, cond_false, h4 _ (rfl : (List.map (fun x => x) [(IntKind.wrap .u8 (w64 (48 + (Int.tmod (m : Int) 10))))]).length = 1), decide_true, cond_true]
  rfl
/-- The marks of n places, from m on. -/
def mksP : Nat → Nat → List ByteArray
  | 0, _ => []
  | n + 1, m => mkP m :: mksP n (m + 1)
theorem mksP_len : ∀ n m, (mksP n m).length = n
  | 0, _ => rfl
  | n + 1, m => by simp [mksP, mksP_len n (m + 1)]
theorem marks_loop (K : Nat) : ∀ (d : Nat) (done xs : List ByteArray) (m k : Nat), xs.length = d → done.length + 1 = m → m + d ≤ 9 → d < k →
    run (step8 (f18 (K + 2))) k (J8.j2 m done.length (done ++ xs)) = some (((m + d : Nat) : Int), done ++ mksP d m)
  | 0, done, xs, m, k + 1, h, hm, h9, hk => by
    have : xs = [] := List.eq_nil_of_length_eq_zero h
    subst this
    have h0 : ¬ ((done.length : Nat) : Int) < (((done ++ []).length : Nat) : Int) := by simp
    rw [run_succ]
    simp only [step8, h0, decide_false, cond_false]
    rfl
  | d + 1, done, x :: xs, m, k + 1, h, hm, h9, hk => by
    have h0 : ((done.length : Nat) : Int) < (((done ++ x :: xs).length : Nat) : Int) := by simp; omega
    have h1 : (0 : Int) ≤ ((done.length : Nat) : Int) := by omega
    rw [run_succ]
    simp only [step8, h0, h1, decide_true, cond_true, mark_eq K m (by omega) (by omega), Option.bind_some]
    rw [w64_id (by omega) (by omega), w64_id (by omega) (by omega)]
    have e : List.set (done ++ x :: xs) ((done.length : Int)).toNat (mkP m) = (done ++ [mkP m]) ++ xs := by simp
    rw [e]
    have ih := marks_loop K d (done ++ [mkP m]) xs (m + 1) k (by simpa using h) (by simp; omega) (by omega) (by omega)
    simp only [List.length_append, List.length_singleton] at ih
    rw [show ((m : Int) + 1) = ((m + 1 : Nat) : Int) by omega, show ((done.length : Int) + 1) = ((done.length + 1 : Nat) : Int) by omega, ih]
    simp only [mksP, List.append_assoc, List.singleton_append]
    rw [show m + 1 + d = m + (d + 1) by omega]
  | 0, _, _ :: _, _, _, h, _, _, _ => by simp at h
theorem held_loop (K : Nat) : ∀ (d : Nat) (done : List ByteArray) (m k : Nat), done.length + 1 = m → m + d ≤ 9 → d < k →
    run (step9 (f18 (K + 2))) k (J9.j2 (done ++ mksP d m) m done.length) = some ((m + d : Nat) : Int)
  | 0, done, m, k + 1, hm, h9, hk => by
    have h0 : ¬ ((done.length : Nat) : Int) < (((done ++ mksP 0 m).length : Nat) : Int) := by simp [mksP]
    rw [run_succ]
    simp only [step9, h0, decide_false, cond_false]
    rfl
  | d + 1, done, m, k + 1, hm, h9, hk => by
    have h0 : ((done.length : Nat) : Int) < (((done ++ mksP (d + 1) m).length : Nat) : Int) := by simp [mksP]; omega
    have h1 : (0 : Int) ≤ ((done.length : Nat) : Int) := by omega
    have hr : rd9 (done ++ mksP (d + 1) m) ((done.length : Nat) : Int) = mkP m := by
      rw [rd9_at (by simp [mksP])]
      simp [mksP]
    rw [run_succ]
    simp only [step9, h0, h1, decide_true, cond_true, mark_eq K m (by omega) (by omega), Option.bind_some, hr]
    simp only [BEq.rfl, Bool.not_true, cond_false]
    rw [w64_id (by omega) (by omega), w64_id (by omega) (by omega)]
    have ih := held_loop K d (done ++ [mkP m]) (m + 1) k (by simp; omega) (by omega) (by omega)
    simp only [List.length_append, List.length_singleton, List.append_assoc, List.singleton_append] at ih
    simp only [mksP]
    rw [show ((m : Int) + 1) = ((m + 1 : Nat) : Int) by omega, show ((done.length : Int) + 1) = ((done.length + 1 : Nat) : Int) by omega, ih]
    rw [show m + 1 + d = m + (d + 1) by omega]
theorem f8_eq (K : Nat) (xs : List ByteArray) (h : xs.length ≤ 6) (hK : 10 ≤ K) : f8 (K + 2) (xs, 1) = some (((1 + xs.length : Nat) : Int), mksP xs.length 1) := marks_loop K xs.length [] xs 1 (K + 2) rfl rfl (by omega) (by omega)
theorem f9_eq (K : Nat) (n : Nat) (h : n ≤ 6) (hK : 10 ≤ K) : f9 (K + 2) (mksP n 1, 1) = some ((1 + n : Nat) : Int) := held_loop K n [] 1 (K + 2) rfl (by omega) (by omega)
theorem same_loop (xs : List ByteArray) (hl : xs.length ≤ 1000000) : ∀ (d i k : Nat), i + d = xs.length → d < k → run step7 k (J7.j4 xs xs i) = some true
  | 0, i, k + 1, h, hk => by
    have h0 : ¬ (i : Int) < ((xs.length : Nat) : Int) := by omega
    rw [run_succ]
    simp only [step7, h0, decide_false, cond_false]
  | d + 1, i, k + 1, h, hk => by
    have h0 : (i : Int) < ((xs.length : Nat) : Int) := by omega
    have h1 : (0 : Int) ≤ (i : Int) := by omega
    rw [run_succ]
    simp only [step7, h0, h1, decide_true, cond_true, BEq.rfl, Bool.not_true, cond_false]
    rw [w64_id (by omega) (by omega)]
    exact same_loop xs hl d (i + 1) k (by omega) (by omega)
theorem f7_eq (xs : List ByteArray) (hl : xs.length ≤ 1000000) {k : Nat} (hk : xs.length < k) : f7 k (xs, xs) = some true := by
  have := same_loop xs hl xs.length 0 k (by omega) hk
  show cond (((xs.length : Nat) : Int) != ((xs.length : Nat) : Int)) (some false) (run step7 k (J7.j4 xs xs 0)) = _
  rw [show (J7.j4 xs xs 0) = J7.j4 xs xs ((0 : Nat) : Int) from rfl, this, bne_self_eq_false]
  rfl
theorem law_FnExactPathSteps (x0 : ByteArray) (h0 : x0.size ≤ 140737488351232) : ∃ k, f3 k x0 = some true := by
  by_cases hs : x0.size ≤ 1048576
  · refine ⟨8 * x0.size + 100 + 2, ?_⟩
    have hsz : ¬ ((x0.size : Nat) : Int) > 1048576 := by omega
    have e5 := spec_val x0 hs (k := 8 * x0.size + 100 + 2) (by omega)
    have e6 := impl_val x0 hs (k := 8 * x0.size + 100 + 2) (by omega)
    have hv := valP_len x0
    generalize valP x0 = v at e5 e6 hv
    have e7 := f7_eq v.2.1 (by omega) (k := 8 * x0.size + 100 + 2) (by omega)
    have e8 := f8_eq (8 * x0.size + 100) v.2.1 hv (by omega)
    have e9 := f9_eq (8 * x0.size + 100) v.2.1.length hv (by omega)
    have hn : ¬ (((1 + v.2.1.length : Nat) : Int) < 0) := by omega
    simp only [f3, start3, hsz, decide_false, cond_false, e5, e6, Option.bind_some, e7, BEq.rfl, Bool.not_true]
    rw [show 8 * x0.size + 100 + 2 = (8 * x0.size + 100 + 1) + 1 from rfl, run_succ] at *
    simp only [step3, e5, e6, e7, e8, e9, Option.bind_some, hn, decide_false, cond_false, bne_self_eq_false, BEq.rfl, Bool.not_true]
    rw [run_succ]
    simp only [step3, e9, Option.bind_some, hn, decide_false, cond_false, bne_self_eq_false]
  · refine ⟨0, ?_⟩
    have hsz : ((x0.size : Nat) : Int) > 1048576 := by omega
    simp only [f3, start3, hsz, decide_true, cond_true]
end Go.Sx
