/- An evaluator of the model's code over symbolic values, and its soundness: part 27. No condition. -/
import Derived.Test.YtecniihieninjaaSyS
import Derived.IntWalk
set_option linter.unusedVariables false
set_option linter.unusedSimpArgs false
namespace Go.Sx
open Go.RowKit
theorem w64_in {x : Int} (h : -9223372036854775808 ≤ x ∧ x ≤ 9223372036854775807) : w64 x = x := IntWalk.i64_in x h
theorem w64_up {n : Nat} (h : n < 9223372036854775807) : w64 ((n : Int) + 1) = ((n + 1 : Nat) : Int) := by rw [w64_in (by omega)]; omega

section
variable {J R : Type} {step : (J → Option R) → J → Option R}

/-- Rounds that go on while p holds, and answer z where it does not. -/
theorem run_loop (at_ : Nat → J) (n : Nat) (p : Nat → Bool) (z : Option R) (hs : ∀ go i, i < n → step go (at_ i) = cond (p i) (go (at_ (i + 1))) z) :
    ∀ d i k, i + d = n → run step (k + d) (at_ i) = cond ((List.range' i d).all p) (run step k (at_ n)) z
  | 0, i, k, h => by
    have : i = n := by omega
    subst this
    rfl
  | d + 1, i, k, h => by
    show step (run step (k + d)) (at_ i) = _
    rw [hs _ _ (by omega), run_loop at_ n p z hs d (i + 1) k (by omega), List.range'_succ, List.all_cons]
    cases p i <;> rfl

/-- The same, from the first place on, with fuel enough. -/
theorem run_all (at_ : Nat → J) (n : Nat) (p : Nat → Bool) (z : Option R) (hs : ∀ go i, i < n → step go (at_ i) = cond (p i) (go (at_ (i + 1))) z) {k : Nat} (hk : n ≤ k) :
    run step k (at_ 0) = cond ((List.range n).all p) (run step (k - n) (at_ n)) z := by
  have := run_loop at_ n p z hs n 0 (k - n) (by omega)
  rw [show k - n + n = k by omega, ← List.range_eq_range'] at this
  exact this

/-- Rounds that all go on. -/
theorem run_on (at_ : Nat → J) (n : Nat) (hs : ∀ go i, i < n → step go (at_ i) = go (at_ (i + 1))) {k : Nat} (hk : n ≤ k) : run step k (at_ 0) = run step (k - n) (at_ n) := by
  have := run_all at_ n (fun _ => true) none (fun go i hi => hs go i hi) hk
  rw [this, List.all_eq_true.2 (fun _ _ => rfl)]
  rfl

/-- Rounds that end. -/
theorem run_tot {σ : Type} (at_ : Nat → σ → J) (n : Nat) (I : σ → Prop) (hs : ∀ go i s, i < n → I s → (∃ s', I s' ∧ step go (at_ i s) = go (at_ (i + 1) s')) ∨ ∃ r, step go (at_ i s) = some r) (he : ∀ go s, I s → ∃ r, step go (at_ n s) = some r) :
    ∀ d i s k, i + d = n → d < k → I s → ∃ r, run step k (at_ i s) = some r
  | 0, i, s, k + 1, h, _, hI => by
    have : i = n := by omega
    subst this
    exact he _ s hI
  | d + 1, i, s, k + 1, h, hk, hI => by
    show ∃ r, step (run step k) (at_ i s) = some r
    rcases hs (run step k) i s (by omega) hI with ⟨s', hI', e⟩ | h
    · rw [e]
      exact run_tot at_ n I hs he d (i + 1) s' k (by omega) (by omega) hI'
    · exact h
end

theorem run_succ {J R : Type} (step : (J → Option R) → J → Option R) (k : Nat) (p : J) : run step (k + 1) p = step (run step k) p := rfl
theorem run_pos {J R : Type} (step : (J → Option R) → J → Option R) {k : Nat} (hk : 0 < k) (p : J) : run step k p = step (run step (k - 1)) p := by
  cases k with
  | zero => omega
  | succ k => rfl

/-- Two rows of one length, held against each other place by place. -/
theorem all_eq {α : Type} [DecidableEq α] {xs ys : List α} (hl : xs.length = ys.length) {p : Nat → Bool} (hp : ∀ i (h : i < xs.length), p i = decide (xs[i] = ys[i]'(hl ▸ h))) : ((List.range xs.length).all p) = decide (xs = ys) := by
  rw [Bool.eq_iff_iff, List.all_eq_true, decide_eq_true_iff]
  constructor
  · intro h
    refine List.ext_getElem hl fun i h1 h2 => ?_
    have := h i (List.mem_range.2 h1)
    rw [hp i h1] at this
    exact of_decide_eq_true this
  · rintro rfl i hi
    rw [hp i (List.mem_range.1 hi)]
    simp
/-- A row written place by place. -/
theorem set_next {α : Type} {xs : List α} {z : α} {i : Nat} (h : i < xs.length) : (xs.take i ++ List.replicate (xs.length - i) z).set i xs[i] = xs.take (i + 1) ++ List.replicate (xs.length - (i + 1)) z := by
  rw [List.set_append_right _ _ (by simp; omega), List.take_succ_eq_append_getElem h, List.append_assoc]
  congr 1
  rw [show i - (xs.take i).length = 0 by simp; omega, show xs.length - i = (xs.length - (i + 1)) + 1 by omega, List.replicate_succ]
  rfl
theorem toList_inj {a b : ByteArray} : a.toList = b.toList ↔ a = b := by
  rw [ByteArray.toList_eq, ByteArray.toList_eq]
  constructor
  · intro h
    cases a; cases b
    simp at h
    simp [h]
  · rintro rfl; rfl
theorem bytes_eq (a b : ByteArray) : (a.toList == b.toList) = decide (a = b) := by
  rw [Bool.eq_iff_iff, beq_iff_eq, decide_eq_true_iff, toList_inj]

/-- A budget that is spent round by round. -/
theorem run_sz {J : Type} {step : (J → Option Int) → J → Option Int} (at_ : Nat → Int → J) (n : Nat) (P : Nat → Prop)
    (hs : ∀ go i s, i < n → 0 ≤ s → s ≤ 1048576 → step go (at_ i s) = some (-1) ∨ ∃ r, 0 ≤ r ∧ r ≤ s ∧ P i ∧ step go (at_ i s) = go (at_ (i + 1) r)) (he : ∀ go s, step go (at_ n s) = some s) :
    ∀ d i s k, i + d = n → d < k → 0 ≤ s → s ≤ 1048576 → ∃ r, run step k (at_ i s) = some r ∧ (r < 0 ∨ (0 ≤ r ∧ r ≤ s ∧ ∀ q, i ≤ q → q < n → P q))
  | 0, i, s, k + 1, h, _, h0, h1 => by
    have : i = n := by omega
    subst this
    exact ⟨s, he _ s, .inr ⟨h0, Int.le_refl _, fun q h2 h3 => by omega⟩⟩
  | d + 1, i, s, k + 1, h, hk, h0, h1 => by
    rcases hs (run step k) i s (by omega) h0 h1 with e | ⟨r, r0, r1, hp, e⟩
    · exact ⟨-1, e, .inl (by decide)⟩
    · obtain ⟨r', h2, h3⟩ := run_sz at_ n P hs he d (i + 1) r k (by omega) (by omega) r0 (by omega)
      refine ⟨r', e.trans h2, h3.imp id fun ⟨a, b, c⟩ => ⟨a, by omega, fun q hq hn => ?_⟩⟩
      by_cases c2 : q = i
      · subst c2; exact hp
      · exact c q (by omega) hn
/-- What a length takes off a budget. -/
theorem sz_len {s : Int} {n : Nat} (h0 : 0 ≤ s) (h1 : s ≤ 1048576) (hn : (n : Int) ≤ 140737488355328) : w64 (s - (n : Int)) = s - (n : Int) := w64_in (by omega)
end Go.Sx
