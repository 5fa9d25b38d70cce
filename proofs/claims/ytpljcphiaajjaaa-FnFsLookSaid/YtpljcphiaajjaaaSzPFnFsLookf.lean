/- The plain law FnFsLook, over what its functions compute: a part. No further condition. -/
import Derived.Test.YtpljcphiaajjaaaSzPFnFsLooke
import Derived.Test.YtpljcphiaajjaaaSzFFnFsLook
set_option linter.unusedVariables false
set_option linter.unusedSimpArgs false
namespace Go.Sx
open Go.RowKit Go.Lib
set_option linter.unusedVariables false
set_option linter.unusedSimpArgs false
/-! ### credentials -/
def credE (l : List Int) (i : Nat) : Bool := decide (0 ≤ rd3 l (i : Int) ∧ rd3 l (i : Int) ≤ 9) && (decide (i = 0) || !decide (rd3 l ((i : Int) - 1) ≥ rd3 l (i : Int)))
def credF (l : List Int) (i : Nat) : Nat → Bool
  | 0 => true
  | d + 1 => credE l i && credF l (i + 1) d
def credB (x : S52) : Bool := credF x.f2 0 x.f2.length && (decide (0 ≤ x.f0 ∧ x.f0 ≤ 9) && (decide (0 ≤ x.f1 ∧ x.f1 ≤ 9) && decide ((x.f2.length : Int) ≤ 3)))
theorem cred50 (l : List Int) (u g : Int) (hl : l.length ≤ 1000000000) (d : Nat) : ∀ i k, i + d = l.length → 2 * d < k →
    run (step50 gUser) k (J50.j2 (i : Int) u g l) = some (credF l i d && (decide (0 ≤ u ∧ u ≤ 9) && (decide (0 ≤ g ∧ g ≤ 9) && decide ((l.length : Int) ≤ 3)))) := by
  induction d with
  | zero =>
    intro i k hi hk
    obtain ⟨k, rfl⟩ : ∃ m, k = m + 1 := ⟨k - 1, by omega⟩
    have a0 : ¬ (i : Int) < (l.length : Int) := by omega
    rw [run_succ]
    simp only [step50, a0, decide_false, cond_false, gUser, Option.bind_some]
    cases decide (0 ≤ u ∧ u ≤ 9) <;> cases decide (0 ≤ g ∧ g ≤ 9) <;> rfl
  | succ d ih =>
    intro i k hi hk
    obtain ⟨k, rfl⟩ : ∃ m, k = m + 1 + 1 := ⟨k - 2, by omega⟩
    have w : w64 ((i : Int) + 1) = ((i + 1 : Nat) : Int) := wsucc (show i < l.length by omega) (by omega)
    have w' : w64 ((i : Int) - 1) = (i : Int) - 1 := w64_id (by clear w; omega) (by clear w; omega)
    have e := ih (i + 1) k (by clear w w'; omega) (by clear w w'; omega)
    have j3 : run (step50 gUser) (k + 1) (J50.j3 (i : Int) u g l) = run (step50 gUser) k (J50.j2 ((i + 1 : Nat) : Int) u g l) := by
      rw [run_succ]
      simp only [step50, w]
    have a0 : (i : Int) < (l.length : Int) := by clear w w'; omega
    have a1 : (0 : Int) ≤ (i : Int) := by clear w w'; omega
    rw [run_succ]
    simp only [step50, a0, a1, decide_true, cond_true, gUser, Option.bind_some, j3, e, w']
    clear w w' e ih j3
    rw [show credF l i (d + 1) = (credE l i && credF l (i + 1) d) from rfl]
    unfold credE
    generalize (decide (0 ≤ u ∧ u ≤ 9) && (decide (0 ≤ g ∧ g ≤ 9) && decide ((l.length : Int) ≤ 3))) = Z
    generalize credF l (i + 1) d = C
    cases decide (0 ≤ rd3 l (i : Int) ∧ rd3 l (i : Int) ≤ 9)
    · rfl
    · by_cases c : i = 0
      · have q : ¬ (i : Int) > 0 := by omega
        simp [c]
      · have q : (i : Int) > 0 := by omega
        have q1 : (0 : Int) ≤ (i : Int) - 1 := by omega
        have q2 : (i : Int) - 1 < (l.length : Int) := by omega
        simp only [q, q1, q2, c, decide_true, decide_false, cond_true, Bool.not_true, cond_false, Bool.true_and, Bool.false_or]
        cases decide (rd3 l ((i : Int) - 1) ≥ rd3 l (i : Int)) <;> rfl
theorem cred60 (l : List Int) (u g : Int) (hl : l.length ≤ 1000000000) (d : Nat) : ∀ i k, i + d = l.length → 2 * d < k →
    run (step60 gIn) k (J60.j2 l (l.length : Int) (i : Int) u g l) = some (credF l i d && (decide (0 ≤ u ∧ u ≤ 9) && (decide (0 ≤ g ∧ g ≤ 9) && decide ((l.length : Int) ≤ 3)))) := by
  induction d with
  | zero =>
    intro i k hi hk
    obtain ⟨k, rfl⟩ : ∃ m, k = m + 1 := ⟨k - 1, by omega⟩
    have a0 : ¬ (i : Int) < (l.length : Int) := by omega
    rw [run_succ]
    simp only [step60, a0, decide_false, cond_false, in_eq, Option.bind_some]
    cases decide (0 ≤ u ∧ u ≤ 9) <;> cases decide (0 ≤ g ∧ g ≤ 9) <;> rfl
  | succ d ih =>
    intro i k hi hk
    obtain ⟨k, rfl⟩ : ∃ m, k = m + 1 + 1 := ⟨k - 2, by omega⟩
    have w : w64 ((i : Int) + 1) = ((i + 1 : Nat) : Int) := wsucc (show i < l.length by omega) (by omega)
    have w' : w64 ((i : Int) - 1) = (i : Int) - 1 := w64_id (by clear w; omega) (by clear w; omega)
    have e := ih (i + 1) k (by clear w w'; omega) (by clear w w'; omega)
    have j3 : run (step60 gIn) (k + 1) (J60.j6 l (l.length : Int) (i : Int) u g l) = run (step60 gIn) k (J60.j2 l (l.length : Int) ((i + 1 : Nat) : Int) u g l) := by
      rw [run_succ]
      simp only [step60, w]
    have a0 : (i : Int) < (l.length : Int) := by clear w w'; omega
    have a1 : (0 : Int) ≤ (i : Int) := by clear w w'; omega
    rw [run_succ]
    simp only [step60, a0, a1, decide_true, cond_true, in_eq, Option.bind_some, j3, e, w']
    clear w w' e ih j3
    rw [show credF l i (d + 1) = (credE l i && credF l (i + 1) d) from rfl]
    unfold credE
    generalize (decide (0 ≤ u ∧ u ≤ 9) && (decide (0 ≤ g ∧ g ≤ 9) && decide ((l.length : Int) ≤ 3))) = Z
    generalize credF l (i + 1) d = C
    cases decide (0 ≤ rd3 l (i : Int) ∧ rd3 l (i : Int) ≤ 9)
    · rfl
    · by_cases c : i = 0
      · have q : ¬ (i : Int) > 0 := by omega
        simp [c]
      · have q : (i : Int) > 0 := by omega
        have q1 : (0 : Int) ≤ (i : Int) - 1 := by omega
        have q2 : (i : Int) - 1 < (l.length : Int) := by omega
        simp only [q, q1, q2, c, decide_true, decide_false, cond_true, Bool.not_true, cond_false, Bool.true_and, Bool.false_or]
        cases decide (rd3 l ((i : Int) - 1) ≥ rd3 l (i : Int)) <;> rfl
theorem f50_eq (x : S52) {k : Nat} (hl : x.f2.length ≤ 1000000000) (hk : 2 * x.f2.length < k) : f50 k x = some (credB x) := by
  show run (step50 (f34 k)) k (J50.j2 0 x.f0 x.f1 x.f2) = _
  rw [f34_eq]
  exact cred50 x.f2 x.f0 x.f1 hl x.f2.length 0 k (by omega) hk
theorem f60_eq (x : S52) {k : Nat} (hl : x.f2.length ≤ 1000000000) (hk : 2 * x.f2.length < k) : f60 k x = some (credB x) := by
  show run (step60 (f33 k)) k (J60.j2 x.f2 (x.f2.length : Int) 0 x.f0 x.f1 x.f2) = _
  rw [f33_eq]
  exact cred60 x.f2 x.f0 x.f1 hl x.f2.length 0 k (by omega) hk
/-! ### a group's members -/
theorem f99_eq (l : List Int) (g : Int) {k : Nat} (hl : l.length ≤ 1000000000) (hk : l.length < k) : f99 k (l, g) = some (decide (g ∈ l)) := by
  have := run_loop (step := step99) (fun i => J99.j2 l g (i : Int)) l.length (fun i => !decide (l[i]? = some g)) (some true) (fun go i hi => by
    have a0 : (i : Int) < (l.length : Int) := by omega
    have a1 : (0 : Int) ≤ (i : Int) := by omega
    simp only [step99, a0, a1, decide_true, cond_true, w64_up (show i < 9223372036854775807 by omega), rd3_at hi, beq_int, List.getElem?_eq_getElem hi, Option.some.injEq]
    cases decide (l[i] = g) <;> rfl) l.length 0 (k - l.length) (by omega)
  rw [show k - l.length + l.length = k by omega] at this
  have e : f99 k (l, g) = run step99 k (J99.j2 l g ((0 : Nat) : Int)) := rfl
  rw [e, this, run_pos _ (by omega)]
  simp only [step99, Int.lt_irrefl, decide_false, cond_false]
  by_cases h : g ∈ l
  · rw [decide_eq_true h]
    have : ((List.range' 0 l.length).all fun i => !decide (l[i]? = some g)) = false := by
      rw [Bool.eq_false_iff]
      intro ha
      rw [List.all_eq_true] at ha
      obtain ⟨i, hi, e⟩ := List.getElem_of_mem h
      have := ha i (by simp [List.mem_range'_1]; omega)
      simp [hi, e] at this
    rw [this]; rfl
  · rw [decide_eq_false h]
    have : ((List.range' 0 l.length).all fun i => !decide (l[i]? = some g)) = true := by
      rw [List.all_eq_true]
      intro i hi
      have hi' : i < l.length := by simpa [List.mem_range'_1] using hi
      simp only [List.getElem?_eq_getElem hi', Option.some.injEq, Bool.not_eq_true', decide_eq_false_iff_not]
      rintro rfl
      exact h (List.getElem_mem hi')
    rw [this]; rfl
theorem f75_at (l : List Int) (g : Int) (hl : l.length ≤ 1000000000) (d : Nat) : ∀ i k, i + d = l.length → d < k → ∃ r, run step75 k (J75.j2 l g (l.length : Int) (i : Int)) = some r ∧ (decide (r ≥ 0) = decide (g ∈ l.drop i)) := by
  induction d with
  | zero =>
    intro i k hi hk
    obtain ⟨k, rfl⟩ : ∃ m, k = m + 1 := ⟨k - 1, by omega⟩
    have a0 : ¬ (i : Int) < (l.length : Int) := by omega
    refine ⟨-1, ?_, ?_⟩
    · rw [run_succ]
      simp only [step75, a0, decide_false, cond_false]
    · rw [List.drop_eq_nil_of_le (by omega)]; simp
  | succ d ih =>
    intro i k hi hk
    obtain ⟨k, rfl⟩ : ∃ m, k = m + 1 := ⟨k - 1, by omega⟩
    have hil : i < l.length := by omega
    have a0 : (i : Int) < (l.length : Int) := by omega
    have a1 : (0 : Int) ≤ (i : Int) := by omega
    obtain ⟨r, h1, h2⟩ := ih (i + 1) k (by omega) (by omega)
    rw [run_succ, List.drop_eq_getElem_cons hil]
    simp only [step75, a0, a1, decide_true, cond_true, w64_up (show i < 9223372036854775807 by omega), rd3_at hil, beq_int, h1]
    by_cases c : g = l[i]
    · refine ⟨(i : Int), by rw [decide_eq_true c]; rfl, ?_⟩
      rw [decide_eq_true (by omega), decide_eq_true (by simp [← c])]
    · refine ⟨r, by rw [decide_eq_false c]; rfl, ?_⟩
      rw [h2]
      exact decide_eq_decide.2 (by rw [List.mem_cons]; exact ⟨Or.inr, fun h => h.resolve_left c⟩)
theorem f62_eq (l : List Int) (g : Int) {k : Nat} (hl : l.length ≤ 1000000000) (hk : l.length < k) : f62 k (l, g) = some (decide (g ∈ l)) := by
  obtain ⟨r, h1, h2⟩ := f75_at l g hl l.length 0 k (by omega) hk
  have e : f75 k (l, g) = some r := h1
  show Option.bind (f75 k (l, g)) _ = _
  rw [e, Option.bind_some, h2]
  rfl
/-! ### who may enter -/
def dig (m : Int) (q : Int) : Int := and_ .i64 (shr_ .i64 m q) 7
theorem f61_eq (k : Nat) (m : Int) : f61 k (m, 0) = some (dig m 6) ∧ f61 k (m, 1) = some (dig m 3) ∧ f61 k (m, 2) = some (dig m 0) := ⟨rfl, rfl, rfl⟩
theorem may_fin : ∀ m : Fin 512, (decide (w64 (w64 (Int.tmod (m.val : Int) 2 + Int.tmod (w64 (Int.tdiv (m.val : Int) 8)) 2) + Int.tmod (w64 (Int.tdiv (m.val : Int) 64)) 2) > 0) = decide (and_ .i64 (or_ .i64 (or_ .i64 (dig (m.val : Int) 6) (dig (m.val : Int) 3)) (dig (m.val : Int) 0)) 1 = 1)) ∧
    and_ .i64 (w64 (Int.tdiv (m.val : Int) 64)) 1 = and_ .i64 (dig (m.val : Int) 6) 1 ∧ and_ .i64 (Int.tmod (w64 (Int.tdiv (m.val : Int) 8)) 8) 1 = and_ .i64 (dig (m.val : Int) 3) 1 ∧ and_ .i64 (Int.tmod (m.val : Int) 8) 1 = and_ .i64 (dig (m.val : Int) 0) 1 := by decide +kernel
theorem may_eq (x : S52) (o g m : Int) {k : Nat} (hc : credB x = true) (ho : 0 ≤ o ∧ o ≤ 9) (hg : 0 ≤ g ∧ g ≤ 9) (hm : 0 ≤ m ∧ m ≤ 511) (hl : x.f2.length ≤ 1000000000) (hk : 2 * x.f2.length + 2 < k) : ∃ b, f29 k (x, o, g, m, 1) = some b ∧ f97 k (x, o, g, m, 1) = some b := by
  obtain ⟨h1, h2, h3, h4⟩ := may_fin ⟨m.toNat, by omega⟩
  have em : ((m.toNat : Nat) : Int) = m := by omega
  simp only [em] at h1 h2 h3 h4
  obtain ⟨d0, d1, d2⟩ := f61_eq k m
  have c1 : f60 k x = some true := by rw [f60_eq x hl (by omega), hc]
  have c2 := f62_eq x.f2 g (k := k) hl (by omega)
  have c3 := f99_eq x.f2 g (k := k) hl (by omega)
  have s1 : f29 k (x, o, g, m, 1) = run (step29 (f33 k) (f60 k) (f61 k) (f62 k)) k (J29.j3 o g m 1 x.f0 x.f1 x.f2) := by
    show start29 (f33 k) (f60 k) (f61 k) (f62 k) (run (step29 (f33 k) (f60 k) (f61 k) (f62 k)) k) (x, o, g, m, 1) = _
    simp only [start29, c1, f33_eq, Option.bind_some, in_eq, ho, hg, hm, and_self, decide_true, Bool.not_true, cond_false]
    rfl
  rw [s1, run_pos _ (by omega)]
  show ∃ b, step29 (f33 k) (f60 k) (f61 k) (f62 k) _ _ = some b ∧ start97 (f99 k) (x, o, g, m, 1) = some b
  have z1 : and_ .i64 1 1 = 1 := by decide +kernel
  have z2 : and_ .i64 7 1 = 1 := by decide +kernel
  have z3 : and_ .i64 6 1 = 0 := by decide +kernel
  simp only [step29, start97, d0, d1, d2, c2, c3, Option.bind_some, beq_int, z1, z2, z3, h1, h2, h3, h4]
  by_cases u0 : x.f0 = 0
  · simp only [u0, decide_true, cond_true]
    refine ⟨_, rfl, ?_⟩
    cases decide (and_ .i64 (or_ .i64 (or_ .i64 (dig m 6) (dig m 3)) (dig m 0)) 1 = 1) <;> rfl
  · by_cases u1 : x.f0 = o
    · simp only [u0, decide_false, cond_false, decide_eq_true u1, cond_true]
      exact ⟨_, rfl, rfl⟩
    · simp only [u0, decide_false, cond_false, decide_eq_false u1]
      cases decide (g ∈ x.f2) <;> exact ⟨_, rfl, rfl⟩
end Go.Sx
