/- The plain law FnExactVfsPath, over what its functions compute: a part. No further condition. -/
import Derived.Test.YtjjblclmpjaegaaSxPFnExactVfsPathg
set_option linter.unusedVariables false
set_option linter.unusedSimpArgs false
namespace Go.Sx
open Go.RowKit Go.Lib
set_option linter.unusedVariables false
set_option linter.unusedSimpArgs false
abbrev slash : ByteArray := ⟨#[47]⟩
theorem slash_size : slash.size = 1 := rfl
theorem cat_size (s t : ByteArray) : ((slash ++ s) ++ t).size = 1 + s.size + t.size := by
  rw [ByteArray.size_append, ByteArray.size_append, slash_size]
def hasB (ns : List S86) (a : Int) : Bool := decide (0 ≤ a ∧ a ≤ 9) && !decide ((rd49 ns a).f0 = 0)
theorem has46 (ns : List S86) (hns : ns.length = 10) (a : Int) (k : Nat) : f39 k (⟨ns⟩, a) = some (hasB ns a) := by
  have e10 : (ns.length : Int) = 10 := by omega
  have w : w64 ((10 : Int) - 1) = 9 := w64_id (by omega) (by omega)
  show Option.bind (f20 k (a, 0, w64 ((ns.length : Int) - 1))) (fun r0 => cond r0 (cond (decide (0 ≤ a)) (cond (decide (a < (ns.length : Int))) (some ((rd49 ns a).f0 != 0)) none) none) (some false)) = _
  rw [e10, w, f33_eq, in_eq, Option.bind_some]
  unfold hasB
  by_cases c : 0 ≤ a ∧ a ≤ 9
  · have c1 : a < 10 := by omega
    rw [decide_eq_true c, cond_true, decide_eq_true c.1, cond_true, decide_eq_true c1]; rfl
  · rw [decide_eq_false c]; rfl
theorem has44 (ns : List S86) (hns : ns.length = 10) (a : Int) (k : Nat) : f38 k (⟨ns⟩, a) = some (hasB ns a) := by
  have : f38 k (⟨ns⟩, a) = f39 k (⟨ns⟩, a) := rfl
  rw [this, has46 ns hns]
section
variable {A B : List S86} {m : Int} {K : Nat}
noncomputable abbrev SS (K : Nat) := step10 (f6 K) (f22 K) (f23 K) (f24 K) (f25 K)
noncomputable abbrev SI (K : Nat) := step12 (f8 K) (f26 K) (f27 K) (f28 K)
abbrev two (A B : List S86) : List S63 := [⟨A⟩, ⟨B⟩]
theorem rdA : rd44 (two A B) 0 = ⟨A⟩ := rfl
theorem rdB : rd44 (two A B) 1 = ⟨B⟩ := rfl
theorem lenT : (((two A B).length : Nat) : Int) = 2 := rfl
def down (m : Int) (p : S34) : S34 := if m > 0 ∧ p.f0 = 0 ∧ p.f1 = m then ⟨1, 0⟩ else p
theorem f23_eq (p : S34) : f23 K (⟨two A B, m⟩, p) = some (down m p) := by
  show start23 (⟨two A B, m⟩, p) = _
  unfold down
  simp only [start23, beq_int]
  by_cases c1 : m > 0
  · by_cases c2 : p.f0 = 0
    · by_cases c3 : p.f1 = m
      · rw [if_pos ⟨c1, c2, c3⟩, decide_eq_true c1, decide_eq_true c2, decide_eq_true c3]; rfl
      · rw [if_neg (fun h => c3 h.2.2), decide_eq_true c1, decide_eq_true c2, decide_eq_false c3]; rfl
    · rw [if_neg (fun h => c2 h.2.1), decide_eq_true c1, decide_eq_false c2]; rfl
  · rw [if_neg (fun h => c1 h.1), decide_eq_false c1]; rfl
theorem up0 {j i : Nat} (h0 : 0 < j) (hU : ∀ f x3 x4 k, 101 ≤ k → run step24 k (J24.j7 0 f (j : Int) x3 x4 A) = some ⟨f, (i : Int)⟩) (hK : 200 ≤ K) : f24 K (⟨two A B, m⟩, ⟨0, (j : Int)⟩) = some ⟨0, (i : Int)⟩ := by
  have q : ¬ (j : Int) = 0 := by omega
  have p0 : (0 : Int) ≤ 0 := by omega
  have p1 : (0 : Int) < 2 := by omega
  show start24 (run step24 K) (⟨two A B, m⟩, ⟨0, (j : Int)⟩) = _
  simp only [start24, beq_int, q, decide_false, cond_false]
  rw [run_pos _ (by omega)]
  simp only [step24, lenT, rdA, p0, p1, decide_true, cond_true]
  exact hU 0 0 0 (K - 1) (by omega)
theorem up1 {j i : Nat} (h0 : 0 < j) (hU : ∀ f x3 x4 k, 101 ≤ k → run step24 k (J24.j7 0 f (j : Int) x3 x4 B) = some ⟨f, (i : Int)⟩) (hK : 200 ≤ K) : f24 K (⟨two A B, m⟩, ⟨1, (j : Int)⟩) = some ⟨1, (i : Int)⟩ := by
  have q : ¬ (j : Int) = 0 := by omega
  have p0 : (0 : Int) ≤ 1 := by omega
  have p1 : (1 : Int) < 2 := by omega
  show start24 (run step24 K) (⟨two A B, m⟩, ⟨1, (j : Int)⟩) = _
  simp only [start24, beq_int, q, decide_false, cond_false]
  rw [run_pos _ (by omega)]
  simp only [step24, lenT, rdB, p0, p1, decide_true, cond_true]
  exact hU 1 0 0 (K - 1) (by omega)
theorem up10 {j i : Nat} (hm : m = (j : Int)) (h0 : 0 < j) (hU : ∀ f x3 x4 k, 101 ≤ k → run step24 k (J24.j7 0 f (j : Int) x3 x4 A) = some ⟨f, (i : Int)⟩) (hK : 200 ≤ K) : f24 K (⟨two A B, m⟩, ⟨1, 0⟩) = some ⟨0, (i : Int)⟩ := by
  subst hm
  have q : ¬ (j : Int) < 0 := by omega
  have p0 : (0 : Int) ≤ 0 := by omega
  have p1 : (0 : Int) < 2 := by omega
  have p2 : ¬ (1 : Int) = 0 := by omega
  show start24 (run step24 K) (⟨two A B, (j : Int)⟩, ⟨1, 0⟩) = _
  simp only [start24, beq_int, q, p2, decide_true, decide_false, cond_true, cond_false]
  rw [run_pos _ (by omega)]
  simp only [step24]
  rw [run_pos _ (by omega)]
  simp only [step24, lenT, rdA, p0, p1, decide_true, cond_true]
  exact hU 0 0 0 (K - 1 - 1) (by omega)
theorem down_eq (m i : Int) : (!(((down m ⟨0, i⟩).f0 == 0) && (((down m ⟨0, i⟩).f1 == i) && true))) = decide (m > 0 ∧ i = m) := by
  unfold down
  by_cases c : m > 0 ∧ i = m
  · rw [if_pos ⟨c.1, rfl, c.2⟩, decide_eq_true c]; rfl
  · rw [if_neg (fun h => c ⟨h.1, h.2.2⟩), decide_eq_false c]
    simp
theorem down_1 (m i : Int) : down m ⟨1, i⟩ = ⟨1, i⟩ := by
  unfold down
  exact if_neg (fun h => absurd h.2.1 (show ¬ (1 : Int) = 0 by omega))
/-- The spec's step from a place (0, j). -/
theorem ss0 {j i : Nat} {s t : ByteArray} (h0 : 0 < j) (hi : i < 10) (hs : s.size ≤ 3) (ht : t.size ≤ 1000000) (h24 : f24 K (⟨two A B, m⟩, ⟨0, (j : Int)⟩) = some ⟨0, (i : Int)⟩) (h25 : f25 K (⟨A⟩, (i : Int), (j : Int)) = some s) (k : Nat) :
    run (SS K) (k + 1 + 1) (J10.j5 t (two A B) m 0 (j : Int)) = cond (decide (m > 0 ∧ (i : Int) = m)) (some (⟨#[]⟩, false)) (run (SS K) k (J10.j5 ((slash ++ s) ++ t) (two A B) m 0 (i : Int))) := by
  have q : ¬ (j : Int) = 0 := by omega
  have p0 : (0 : Int) ≤ 0 := by omega
  have p1 : (0 : Int) < 2 := by omega
  have p2 : ¬ (0 : Int) = 1 := by omega
  have c1 : (((slash.size + s.size : Nat)) : Int) ≤ 9223372036854775807 := by rw [slash_size]; omega
  have c2 : ((((slash ++ s).size + t.size : Nat)) : Int) ≤ 9223372036854775807 := by rw [ByteArray.size_append, slash_size]; omega
  have j12 : run (SS K) (k + 1) (J10.j12 t (j : Int) (two A B) m 0 (j : Int) 0 (i : Int)) = run (SS K) k (J10.j5 ((slash ++ s) ++ t) (two A B) m 0 (i : Int)) := by
    rw [run_succ]
    simp only [SS, step10, lenT, rdA, p0, p1, h25, c1, c2, decide_true, cond_true, Option.bind_some]
  rw [run_succ]
  simp only [SS, step10, h24, f23_eq, Option.bind_some, down_eq]
  simp only [beq_int, q, p2, decide_true, decide_false, Bool.and_true, Bool.and_false, Bool.not_false, cond_true, cond_false]
  congr 1
theorem ss1 {j i : Nat} {s t : ByteArray} (h0 : 0 < j) (hi : i < 10) (hs : s.size ≤ 3) (ht : t.size ≤ 1000000) (h24 : f24 K (⟨two A B, m⟩, ⟨1, (j : Int)⟩) = some ⟨1, (i : Int)⟩) (h25 : f25 K (⟨B⟩, (i : Int), (j : Int)) = some s) (k : Nat) :
    run (SS K) (k + 1 + 1) (J10.j5 t (two A B) m 1 (j : Int)) = run (SS K) k (J10.j5 ((slash ++ s) ++ t) (two A B) m 1 (i : Int)) := by
  have q : ¬ (j : Int) = 0 := by omega
  have p0 : (0 : Int) ≤ 1 := by omega
  have p1 : (1 : Int) < 2 := by omega
  have c1 : (((slash.size + s.size : Nat)) : Int) ≤ 9223372036854775807 := by rw [slash_size]; omega
  have c2 : ((((slash ++ s).size + t.size : Nat)) : Int) ≤ 9223372036854775807 := by rw [ByteArray.size_append, slash_size]; omega
  have j12 : run (SS K) (k + 1) (J10.j12 t (j : Int) (two A B) m 1 (j : Int) 1 (i : Int)) = run (SS K) k (J10.j5 ((slash ++ s) ++ t) (two A B) m 1 (i : Int)) := by
    rw [run_succ]
    simp only [SS, step10, lenT, rdB, p0, p1, h25, c1, c2, decide_true, cond_true, Option.bind_some]
  rw [run_succ]
  simp only [SS, step10, h24, f23_eq, Option.bind_some, down_1]
  simp only [beq_int, q, decide_true, decide_false, Bool.and_true, Bool.and_false, Bool.not_false, Bool.not_true, cond_true, cond_false]
  exact j12
theorem ss10 {j i : Nat} {s t : ByteArray} (hm : m = (j : Int)) (h0 : 0 < j) (hi : i < 10) (hs : s.size ≤ 3) (ht : t.size ≤ 1000000) (h24 : f24 K (⟨two A B, m⟩, ⟨1, 0⟩) = some ⟨0, (i : Int)⟩) (h25 : f25 K (⟨A⟩, (i : Int), (j : Int)) = some s) (k : Nat) :
    run (SS K) (k + 1 + 1 + 1) (J10.j5 t (two A B) m 1 0) = cond (decide (m > 0 ∧ (i : Int) = m)) (some (⟨#[]⟩, false)) (run (SS K) k (J10.j5 ((slash ++ s) ++ t) (two A B) m 0 (i : Int))) := by
  have p0 : (0 : Int) ≤ 0 := by omega
  have p1 : (0 : Int) < 2 := by omega
  have p2 : ¬ (1 : Int) = 0 := by omega
  have c1 : (((slash.size + s.size : Nat)) : Int) ≤ 9223372036854775807 := by rw [slash_size]; omega
  have c2 : ((((slash ++ s).size + t.size : Nat)) : Int) ≤ 9223372036854775807 := by rw [ByteArray.size_append, slash_size]; omega
  have j12 : run (SS K) (k + 1) (J10.j12 t m (two A B) m 1 0 0 (i : Int)) = run (SS K) k (J10.j5 ((slash ++ s) ++ t) (two A B) m 0 (i : Int)) := by
    rw [run_succ]
    rw [← hm] at h25
    simp only [SS, step10, lenT, rdA, p0, p1, h25, c1, c2, decide_true, cond_true, Option.bind_some]
  have j11 : run (SS K) (k + 1 + 1) (J10.j11 t (two A B) m 1 0 0 (i : Int)) = run (SS K) k (J10.j5 ((slash ++ s) ++ t) (two A B) m 0 (i : Int)) := by
    rw [run_succ]
    simp only [SS, step10]
    exact j12
  rw [run_succ]
  simp only [SS, step10, h24, f23_eq, Option.bind_some, down_eq]
  simp only [beq_int, p2, decide_true, decide_false, Bool.and_true, Bool.false_and, Bool.and_false, Bool.not_false, cond_true, cond_false]
  congr 1
/-- The program's step. -/
theorem si10 {f : Int} {X : List S86} {j i : Nat} {s t : ByteArray} (hf : f = 0 ∧ X = A ∨ f = 1 ∧ X = B) (hs : s.size ≤ 3) (ht : t.size ≤ 1000000) (h28 : f28 K (⟨X⟩, (j : Int)) = some ((i : Int), s)) (k : Nat) :
    run (SI K) (k + 1) (J12.j10 t (two A B) m f (j : Int)) = run (SI K) k (J12.j5 ((slash ++ s) ++ t) false (two A B) m f (i : Int)) := by
  have c1 : (((slash.size + s.size : Nat)) : Int) ≤ 9223372036854775807 := by rw [slash_size]; omega
  have c2 : ((((slash ++ s).size + t.size : Nat)) : Int) ≤ 9223372036854775807 := by rw [ByteArray.size_append, slash_size]; omega
  have p0 : (0 : Int) ≤ 0 := by omega
  have p1 : (0 : Int) < 2 := by omega
  have p2 : (0 : Int) ≤ 1 := by omega
  have p3 : (1 : Int) < 2 := by omega
  rw [run_succ]
  rcases hf with ⟨rfl, rfl⟩ | ⟨rfl, rfl⟩
  · simp only [SI, step12, lenT, rdA, p0, p1, h28, c1, c2, decide_true, cond_true, Option.bind_some]
  · simp only [SI, step12, lenT, rdB, p2, p3, h28, c1, c2, decide_true, cond_true, Option.bind_some]
theorem si0 {j i : Nat} {s t : ByteArray} {b : Bool} (h0 : 0 < j) (hb : b = true ∨ ¬ (j : Int) = m) (hs : s.size ≤ 3) (ht : t.size ≤ 1000000) (h28 : f28 K (⟨A⟩, (j : Int)) = some ((i : Int), s)) (k : Nat) :
    run (SI K) (k + 1 + 1) (J12.j5 t b (two A B) m 0 (j : Int)) = run (SI K) k (J12.j5 ((slash ++ s) ++ t) false (two A B) m 0 (i : Int)) := by
  have e := si10 (A := A) (B := B) (m := m) (f := 0) (X := A) (.inl ⟨rfl, rfl⟩) hs ht h28 k
  have q : ¬ (j : Int) = 0 := by omega
  have p2 : ¬ (0 : Int) = 1 := by omega
  rw [run_succ]
  simp only [SI, step12, beq_int, q, p2, decide_true, decide_false, Bool.and_true, Bool.false_and, Bool.and_false, Bool.not_false, cond_true, cond_false]
  by_cases c : (j : Int) = m
  · rcases hb with rfl | hb
    · rw [decide_eq_true c]
      exact e
    · exact absurd c hb
  · rw [decide_eq_false c]
    exact e
theorem si1 {j i : Nat} {s t : ByteArray} {b : Bool} (h0 : 0 < j) (hs : s.size ≤ 3) (ht : t.size ≤ 1000000) (h28 : f28 K (⟨B⟩, (j : Int)) = some ((i : Int), s)) (k : Nat) :
    run (SI K) (k + 1 + 1) (J12.j5 t b (two A B) m 1 (j : Int)) = run (SI K) k (J12.j5 ((slash ++ s) ++ t) false (two A B) m 1 (i : Int)) := by
  have e := si10 (A := A) (B := B) (m := m) (f := 1) (X := B) (.inr ⟨rfl, rfl⟩) hs ht h28 k
  have q : ¬ (j : Int) = 0 := by omega
  have p2 : ¬ (1 : Int) = 0 := by omega
  rw [run_succ]
  simp only [SI, step12, beq_int, q, p2, decide_true, decide_false, Bool.and_true, Bool.false_and, Bool.and_false, Bool.not_false, cond_true, cond_false]
  exact e
theorem si1_0 {j i : Nat} {s t : ByteArray} {b : Bool} (hm : m = (j : Int)) (hs : s.size ≤ 3) (ht : t.size ≤ 1000000) (h28 : f28 K (⟨A⟩, (j : Int)) = some ((i : Int), s)) (k : Nat) :
    run (SI K) (k + 1 + 1) (J12.j5 t b (two A B) m 1 0) = run (SI K) k (J12.j5 ((slash ++ s) ++ t) false (two A B) m 0 (i : Int)) := by
  have e := si10 (A := A) (B := B) (m := m) (f := 0) (X := A) (.inl ⟨rfl, rfl⟩) hs ht h28 k
  have p2 : ¬ (1 : Int) = 0 := by omega
  rw [run_succ]
  simp only [SI, step12, beq_int, p2, decide_true, decide_false, Bool.and_true, Bool.false_and, Bool.and_false, Bool.not_false, cond_true, cond_false]
  rw [← hm] at e
  exact e
theorem siF {t : ByteArray} (hm : m > 0) (k : Nat) : run (SI K) (k + 1) (J12.j5 t false (two A B) m 0 m) = some (⟨#[]⟩, false) := by
  have q : ¬ m = 0 := by omega
  have p2 : ¬ (0 : Int) = 1 := by omega
  rw [run_succ]
  simp only [SI, step12, beq_int, q, p2, decide_true, decide_false, Bool.and_true, Bool.false_and, Bool.and_false, Bool.not_false, cond_true, cond_false]
noncomputable def endR (t : ByteArray) : ByteArray × Bool := cond (t.toList == (⟨#[]⟩ : ByteArray).toList) (slash, true) (t, true)
theorem ssE (t : ByteArray) (k : Nat) : run (SS K) (k + 1) (J10.j5 t (two A B) m 0 0) = some (endR t) := by
  rw [run_succ]
  unfold endR
  simp only [SS, step10, beq_int, decide_true, Bool.and_true, Bool.not_true, cond_false]
  cases (t.toList == (⟨#[]⟩ : ByteArray).toList) <;> rfl
theorem siE (t : ByteArray) (b : Bool) (k : Nat) : run (SI K) (k + 1) (J12.j5 t b (two A B) m 0 0) = some (endR t) := by
  rw [run_succ]
  unfold endR
  simp only [SI, step12, beq_int, decide_true, Bool.and_true, Bool.not_true, cond_false]
  cases (t.toList == (⟨#[]⟩ : ByteArray).toList) <;> rfl
theorem walk0 (TA : Tree A) (hK : 200 ≤ K) (d : Nat) : ∀ (j : Nat) (t : ByteArray) (b : Bool) (k k' : Nat), j < 10 → kF A j = true → GUp (kE A) d j → ¬ (m > 0 ∧ (j : Int) = m) → t.size + 4 * d ≤ 900000 → 2 * d < k → 2 * d + 1 < k' →
    ∃ r, run (SS K) k (J10.j5 t (two A B) m 0 (j : Int)) = some r ∧ run (SI K) k' (J12.j5 t b (two A B) m 0 (j : Int)) = some r := by
  induction d with
  | zero =>
    intro j t b k k' hj hF hU hm ht hk hk'
    cases hU
    obtain ⟨k, rfl⟩ : ∃ m, k = m + 1 := ⟨k - 1, by omega⟩
    obtain ⟨k', rfl⟩ : ∃ m, k' = m + 1 := ⟨k' - 1, by omega⟩
    exact ⟨_, ssE t k, siE t b k'⟩
  | succ d ih =>
    intro j t b k k' hj hF hU hm ht hk hk'
    obtain ⟨k, rfl⟩ : ∃ m, k = m + 1 + 1 := ⟨k - 2, by omega⟩
    obtain ⟨k', rfl⟩ : ∃ m, k' = m + 1 + 1 := ⟨k' - 2, by omega⟩
    by_cases c0 : j = 0
    · subst c0
      exact ⟨_, ssE t (k + 1), siE t b (k' + 1)⟩
    · obtain ⟨i, s, hi, hFi, hUi, hs, h28, h24, h25⟩ := step_up TA hj hF (by omega) hU hK
      rw [ss0 (by omega) hi hs (by omega) (up0 (by omega) h24 hK) h25]
      have hb : b = true ∨ ¬ (j : Int) = m := by
        by_cases c : (j : Int) = m
        · exact absurd ⟨by omega, c⟩ hm
        · exact .inr c
      rw [si0 (by omega) hb hs (by omega) h28]
      by_cases c : m > 0 ∧ (i : Int) = m
      · obtain ⟨k', rfl⟩ : ∃ m, k' = m + 1 := ⟨k' - 1, by omega⟩
        rw [decide_eq_true c, c.2, siF c.1]
        exact ⟨_, rfl, rfl⟩
      · rw [decide_eq_false c]
        exact ih i _ false k k' hi hFi hUi c (by rw [cat_size]; omega) (by omega) (by omega)
/-- From the upper tree's root on: at the place where it hangs. -/
theorem hang {mn : Nat} (hm : m = (mn : Int)) (h0 : 0 < mn) (h9 : mn < 10) (TA : Tree A) (hF : kF A mn = true) (hK : 200 ≤ K) : ∃ i s d, i < 10 ∧ kF A i = true ∧ GUp (kE A) d i ∧ d < 10 ∧ s.size ≤ 3 ∧ f28 K (⟨A⟩, (mn : Int)) = some ((i : Int), s) ∧ f24 K (⟨two A B, m⟩, ⟨1, 0⟩) = some ⟨0, (i : Int)⟩ ∧ f25 K (⟨A⟩, (i : Int), (mn : Int)) = some s := by
  obtain ⟨d, hd, hU⟩ := TA.up mn h9 hF
  cases d with
  | zero => cases hU; omega
  | succ d =>
    obtain ⟨i, s, hi, hFi, hUi, hs, h28, h24, h25⟩ := step_up TA h9 hF h0 hU hK
    exact ⟨i, s, d, hi, hFi, hUi, by omega, hs, h28, up10 hm h0 h24 hK, h25⟩
theorem walk1 {mn : Nat} (hm : m = (mn : Int)) (h0 : 0 < mn) (h9 : mn < 10) (TA : Tree A) (TB : Tree B) (hFm : kF A mn = true) (hK : 200 ≤ K) (d : Nat) : ∀ (j : Nat) (t : ByteArray) (b : Bool) (k k' : Nat), j < 10 → kF B j = true → GUp (kE B) d j → t.size + 4 * d ≤ 800000 → 2 * d + 40 < k → 2 * d + 40 < k' →
    ∃ r, run (SS K) k (J10.j5 t (two A B) m 1 (j : Int)) = some r ∧ run (SI K) k' (J12.j5 t b (two A B) m 1 (j : Int)) = some r := by
  have root : ∀ (t : ByteArray) (b : Bool) (k k' : Nat), t.size ≤ 800000 → 40 < k → 40 < k' → ∃ r, run (SS K) k (J10.j5 t (two A B) m 1 0) = some r ∧ run (SI K) k' (J12.j5 t b (two A B) m 1 0) = some r := by
    intro t b k k' ht hk hk'
    obtain ⟨k, rfl⟩ : ∃ m, k = m + 1 + 1 + 1 := ⟨k - 3, by omega⟩
    obtain ⟨k', rfl⟩ : ∃ m, k' = m + 1 + 1 := ⟨k' - 2, by omega⟩
    obtain ⟨i, s, d, hi, hFi, hUi, hd, hs, h28, h24, h25⟩ := hang (B := B) hm h0 h9 TA hFm hK
    rw [ss10 hm h0 hi hs (by omega) h24 h25, si1_0 hm hs (by omega) h28]
    by_cases c : m > 0 ∧ (i : Int) = m
    · obtain ⟨k', rfl⟩ : ∃ m, k' = m + 1 := ⟨k' - 1, by omega⟩
      rw [decide_eq_true c, c.2, siF c.1]
      exact ⟨_, rfl, rfl⟩
    · rw [decide_eq_false c]
      exact walk0 TA hK d i _ false k k' hi hFi hUi c (by rw [cat_size]; omega) (by omega) (by omega)
  induction d with
  | zero =>
    intro j t b k k' hj hF hU ht hk hk'
    cases hU
    exact root t b k k' (by omega) (by omega) (by omega)
  | succ d ih =>
    intro j t b k k' hj hF hU ht hk hk'
    by_cases c0 : j = 0
    · subst c0
      exact root t b k k' (by omega) (by omega) (by omega)
    · obtain ⟨k, rfl⟩ : ∃ m, k = m + 1 + 1 := ⟨k - 2, by omega⟩
      obtain ⟨k', rfl⟩ : ∃ m, k' = m + 1 + 1 := ⟨k' - 2, by omega⟩
      obtain ⟨i, s, hi, hFi, hUi, hs, h28, h24, h25⟩ := step_up TB hj hF (by omega) hU hK
      rw [ss1 (by omega) hi hs (by omega) (up1 (by omega) h24 hK) h25, si1 (by omega) hs (by omega) h28]
      exact ih i _ false k k' hi hFi hUi (by rw [cat_size]; omega) (by omega) (by omega)
end
end Go.Sx
