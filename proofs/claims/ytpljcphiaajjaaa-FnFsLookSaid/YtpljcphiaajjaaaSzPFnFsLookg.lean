/- The plain law FnFsLook, over what its functions compute: a part. No further condition. -/
import Derived.Test.YtpljcphiaajjaaaSzPFnFsLookf
set_option linter.unusedVariables false
set_option linter.unusedSimpArgs false
namespace Go.Sx
open Go.RowKit Go.Lib
set_option linter.unusedVariables false
set_option linter.unusedSimpArgs false
/-! ### the order of names -/
theorem less_irrefl : ∀ a : List UInt8, Go.Op.bytesLess a a = false
  | [] => rfl
  | a :: x => by
    have h : ¬ a < a := by rw [UInt8.lt_iff_toNat_lt]; omega
    simp [Go.Op.bytesLess, h, less_irrefl x]
theorem less_trans : ∀ a b c : List UInt8, Go.Op.bytesLess a b = true → Go.Op.bytesLess b c = true → Go.Op.bytesLess a c = true
  | _, _, [], _, h => by cases ‹List UInt8› <;> simp [Go.Op.bytesLess] at h
  | _, [], _ :: _, h, _ => by cases ‹List UInt8› <;> simp [Go.Op.bytesLess] at h
  | [], _ :: _, _ :: _, _, _ => rfl
  | a :: x, b :: y, c :: z, h, k => by
    simp only [Go.Op.bytesLess, Bool.or_eq_true, decide_eq_true_eq, Bool.and_eq_true, beq_iff_eq, UInt8.lt_iff_toNat_lt] at h k ⊢
    rcases h with h | ⟨rfl, h⟩
    · rcases k with k | ⟨rfl, k⟩
      · exact .inl (by omega)
      · exact .inl h
    · rcases k with k | ⟨rfl, k⟩
      · exact .inl k
      · exact .inr ⟨rfl, less_trans x y z h k⟩
theorem cmp_less : ∀ a b : List UInt8, decide (compareBytes a b < 0) = Go.Op.bytesLess a b
  | [], [] => rfl
  | [], _ :: _ => rfl
  | _ :: _, [] => rfl
  | a :: x, b :: y => by
    unfold compareBytes Go.Op.bytesLess
    by_cases h : a < b
    · rw [if_pos h]; simp [h]
    · rw [if_neg h]
      by_cases h2 : b < a
      · have : ¬ a = b := by rintro rfl; exact h h2
        rw [if_pos h2]; simp [h, this]
      · have : a = b := by
          rw [UInt8.lt_iff_toNat_lt] at h h2
          exact UInt8.toNat_inj.1 (by omega)
        rw [if_neg h2, cmp_less x y]
        simp [this]
theorem cmp_zero : ∀ a b : List UInt8, decide (compareBytes a b = 0) = decide (a = b)
  | [], [] => rfl
  | [], _ :: _ => rfl
  | _ :: _, [] => rfl
  | a :: x, b :: y => by
    unfold compareBytes
    by_cases h : a < b
    · have : ¬ a = b := by rintro rfl; rw [UInt8.lt_iff_toNat_lt] at h; omega
      rw [if_pos h]; simp [this]
    · rw [if_neg h]
      by_cases h2 : b < a
      · have : ¬ a = b := by rintro rfl; exact h h2
        rw [if_pos h2]; simp [this]
      · have : a = b := by
          rw [UInt8.lt_iff_toNat_lt] at h h2
          exact UInt8.toNat_inj.1 (by omega)
        rw [if_neg h2, cmp_zero x y]
        simp [this]
def nmAt (es : List S47) (q : Nat) : ByteArray := (rd47 es (q : Int)).f0
def Sorted (es : List S47) : Prop := ∀ i j, i < j → j < es.length → Go.Op.bytesLess (nmAt es i).toList (nmAt es j).toList = true
theorem sorted_of {es : List S47} (h : ∀ q, q < es.length → entC es q = true) : Sorted es := by
  have step : ∀ q, q + 1 < es.length → Go.Op.bytesLess (nmAt es q).toList (nmAt es (q + 1)).toList = true := by
    intro q hq
    have := h (q + 1) hq
    unfold entC at this
    simp only [Bool.and_eq_true, Bool.or_eq_true, decide_eq_true_eq] at this
    rcases this.2 with e | e
    · omega
    · rw [show (((q + 1 : Nat) : Int) - 1) = (q : Int) by omega] at e
      exact e
  intro i j hij hj
  obtain ⟨d, rfl⟩ : ∃ d, j = i + 1 + d := ⟨j - i - 1, by omega⟩
  induction d with
  | zero => exact step i hj
  | succ d ih => exact less_trans _ _ _ (ih (by omega) (by omega)) (step (i + 1 + d) hj)
theorem f73_eq (k : Nat) (e : S47) (s : ByteArray) : f73 k (e, s) = some (compareBytes e.f0.toList s.toList) := by
  show Option.bind (Option.bind (some (compareBytes e.f0.data.toList s.data.toList)) some) some = _
  rw [ByteArray.toList_eq, ByteArray.toList_eq]
  rfl
theorem mid_eq {i j : Nat} (h : i + j ≤ 4000000000) : w64 (shr_ .u64 (IntKind.wrap .u64 (w64 ((i : Int) + (j : Int)))) 1) = (((i + j) / 2 : Nat) : Int) := by
  rw [w64_id (n := (i : Int) + (j : Int)) (by omega) (by omega)]
  have e1 : IntKind.wrap .u64 ((i : Int) + (j : Int)) = (i : Int) + (j : Int) := by
    unfold IntKind.wrap
    simp [IntKind.bits, IntKind.signed]
    omega
  rw [e1]
  have e2 : shr_ .u64 ((i : Int) + (j : Int)) 1 = (((i + j) / 2 : Nat) : Int) := by
    show Int.fdiv _ 2 = _
    rw [Int.fdiv_eq_ediv_of_nonneg _ (by omega)]
    omega
  rw [e2]
  exact w64_id (by omega) (by omega)
theorem find_run (es : List S47) (s : ByteArray) (hs : Sorted es) (hl : es.length ≤ 1000000000) (K : Nat) (n : Nat) : ∀ (i j k : Nat), j - i = n → i ≤ j → j ≤ es.length → n < k → (∀ q, q < i → Go.Op.bytesLess (nmAt es q).toList s.toList = true) → (∀ q, j ≤ q → q < es.length → Go.Op.bytesLess (nmAt es q).toList s.toList = false) →
    ∃ r b, run (step72 (f73 K)) k (J72.j3 es s (es.length : Int) (i : Int) (j : Int)) = some (r, b) ∧ ((b = true ∧ ∃ q, q < es.length ∧ r = (q : Int) ∧ nmAt es q = s) ∨ (b = false ∧ ∀ q, q < es.length → nmAt es q ≠ s)) := by
  induction n using Nat.strongRecOn with
  | _ n ih =>
    intro i j k hn hij hj hk h1 h2
    obtain ⟨k, rfl⟩ : ∃ m, k = m + 1 := ⟨k - 1, by omega⟩
    rw [run_succ]
    by_cases c : i < j
    · have a0 : (i : Int) < (j : Int) := by omega
      have m1 : (i + j) / 2 < es.length := by omega
      have a1 : (0 : Int) ≤ (((i + j) / 2 : Nat) : Int) := by omega
      have a2 : (((i + j) / 2 : Nat) : Int) < (es.length : Int) := by omega
      have w := w64_up (n := (i + j) / 2) (by omega)
      simp only [step72, a0, mid_eq (i := i) (j := j) (by omega), a1, a2, decide_true, cond_true, f73_eq, Option.bind_some, cmp_less, w]
      have e : (rd47 es (((i + j) / 2 : Nat) : Int)).f0 = nmAt es ((i + j) / 2) := rfl
      rw [e]
      cases cl : Go.Op.bytesLess (nmAt es ((i + j) / 2)).toList s.toList with
      | true =>
        exact ih (j - ((i + j) / 2 + 1)) (by omega) ((i + j) / 2 + 1) j k rfl (by omega) hj (by omega) (fun q hq => by
          by_cases e : q = (i + j) / 2
          · rw [e]; exact cl
          · exact less_trans _ _ _ (hs q ((i + j) / 2) (by omega) m1) cl) h2
      | false =>
        exact ih ((i + j) / 2 - i) (by omega) i ((i + j) / 2) k rfl (by omega) (by omega) (by omega) h1 (fun q hq hq2 => by
          by_cases e : q = (i + j) / 2
          · rw [e]; exact cl
          · cases c3 : Go.Op.bytesLess (nmAt es q).toList s.toList with
            | false => rfl
            | true => rw [less_trans _ _ _ (hs ((i + j) / 2) q (by omega) hq2) c3] at cl; cases cl)
    · have hij' : i = j := by omega
      subst hij'
      simp only [step72, Int.lt_irrefl, decide_false, cond_false]
      by_cases c2 : i < es.length
      · have a1 : (0 : Int) ≤ (i : Int) := by omega
        have a2 : (i : Int) < (es.length : Int) := by omega
        simp only [a1, a2, decide_true, cond_true, f73_eq, Option.bind_some, beq_int, cmp_zero]
        refine ⟨_, _, rfl, ?_⟩
        by_cases c3 : (rd47 es (i : Int)).f0.toList = s.toList
        · exact .inl ⟨decide_eq_true c3, i, c2, rfl, toList_inj.1 c3⟩
        · refine .inr ⟨decide_eq_false c3, fun q hq e => ?_⟩
          by_cases c4 : q < i
          · have := h1 q c4
            rw [e, less_irrefl] at this; cases this
          · by_cases c5 : q = i
            · subst c5; exact c3 (by rw [← e]; rfl)
            · have h3 := hs i q (by omega) hq
              have h4 := h2 i (Nat.le_refl _) c2
              rw [e] at h3
              rw [h3] at h4; cases h4
      · have a2 : ¬ (i : Int) < (es.length : Int) := by omega
        simp only [a2, decide_false, cond_false]
        refine ⟨_, _, rfl, .inr ⟨rfl, fun q hq e => ?_⟩⟩
        have := h1 q (by omega)
        rw [e, less_irrefl] at this; cases this
theorem find_eq (z : S34) (s : ByteArray) (hs : Sorted z.f8) (hl : z.f8.length ≤ 1000000000) {k : Nat} (hk : z.f8.length < k) :
    ∃ r b, f56 k (z, s) = some (r, b) ∧ ((b = true ∧ ∃ q, q < z.f8.length ∧ r = (q : Int) ∧ nmAt z.f8 q = s) ∨ (b = false ∧ ∀ q, q < z.f8.length → nmAt z.f8 q ≠ s)) := by
  obtain ⟨r, b, h1, h2⟩ := find_run z.f8 s hs hl k z.f8.length 0 z.f8.length k rfl (by omega) (Nat.le_refl _) hk (fun q hq => by omega) (fun q h1 h2 => by omega)
  refine ⟨r, b, ?_, h2⟩
  show Option.bind (run (step72 (f73 k)) k (J72.j3 z.f8 s (z.f8.length : Int) 0 (z.f8.length : Int))) _ = _
  have h1' : run (step72 (f73 k)) k (J72.j3 z.f8 s (z.f8.length : Int) 0 (z.f8.length : Int)) = some (r, b) := h1
  rw [h1']; rfl
theorem at_run (z : S34) (s : ByteArray) (hl : z.f8.length ≤ 1000000000) (d : Nat) : ∀ i k, i + d = z.f8.length → d < k → ∃ r, run step71 k (J71.j2 s (i : Int) z.f0 z.f1 z.f2 z.f3 z.f4 z.f5 z.f6 z.f7 z.f8) = some r ∧ ((r = -1 ∧ ∀ q, i ≤ q → q < z.f8.length → nmAt z.f8 q ≠ s) ∨ ∃ q, q < z.f8.length ∧ r = (q : Int) ∧ nmAt z.f8 q = s) := by
  induction d with
  | zero =>
    intro i k hi hk
    obtain ⟨k, rfl⟩ : ∃ m, k = m + 1 := ⟨k - 1, by omega⟩
    have a0 : ¬ (i : Int) < (z.f8.length : Int) := by omega
    refine ⟨-1, ?_, .inl ⟨rfl, fun q h1 h2 => by omega⟩⟩
    rw [run_succ]
    simp only [step71, a0, decide_false, cond_false]
  | succ d ih =>
    intro i k hi hk
    obtain ⟨k, rfl⟩ : ∃ m, k = m + 1 := ⟨k - 1, by omega⟩
    have a0 : (i : Int) < (z.f8.length : Int) := by omega
    have a1 : (0 : Int) ≤ (i : Int) := by omega
    obtain ⟨r, h1, h2⟩ := ih (i + 1) k (by omega) (by omega)
    rw [run_succ]
    simp only [step71, a0, a1, decide_true, cond_true, bytes_eq, w64_up (show i < 9223372036854775807 by omega), h1]
    have e : (rd47 z.f8 (i : Int)).f0 = nmAt z.f8 i := rfl
    rw [e]
    by_cases c : nmAt z.f8 i = s
    · exact ⟨_, by rw [decide_eq_true c]; rfl, .inr ⟨i, by omega, rfl, c⟩⟩
    · refine ⟨r, by rw [decide_eq_false c]; rfl, ?_⟩
      rcases h2 with ⟨h3, h4⟩ | h3
      · refine .inl ⟨h3, fun q h5 h6 => ?_⟩
        by_cases c2 : q = i
        · subst c2; exact c
        · exact h4 q (by omega) h6
      · exact .inr h3
theorem at_eq (z : S34) (s : ByteArray) (hl : z.f8.length ≤ 1000000000) {k : Nat} (hk : z.f8.length < k) : ∃ r, f71 k (z, s) = some r ∧ ((r = -1 ∧ ∀ q, q < z.f8.length → nmAt z.f8 q ≠ s) ∨ ∃ q, q < z.f8.length ∧ r = (q : Int) ∧ nmAt z.f8 q = s) := by
  obtain ⟨r, h1, h2⟩ := at_run z s hl z.f8.length 0 k (by omega) hk
  exact ⟨r, h1, h2.imp (fun ⟨a, b⟩ => ⟨a, fun q hq => b q (Nat.zero_le _) hq⟩) id⟩
theorem uniq {es : List S47} (hs : Sorted es) {s : ByteArray} {p q : Nat} (hp : p < es.length) (hq : q < es.length) (h1 : nmAt es p = s) (h2 : nmAt es q = s) : p = q := by
  rcases Nat.lt_trichotomy p q with h | h | h
  · have := hs p q h hq
    rw [h1, h2, less_irrefl] at this; cases this
  · exact h
  · have := hs q p h hp
    rw [h1, h2, less_irrefl] at this; cases this
end Go.Sx
