/- The plain law FnFsLook, over what its functions compute: a part. No further condition. -/
import Derived.Test.YtpljcphiaajjaaaSzPFnFsLookb
set_option linter.unusedVariables false
set_option linter.unusedSimpArgs false
namespace Go.Sx
open Go.RowKit Go.Lib
set_option linter.unusedVariables false
set_option linter.unusedSimpArgs false
/-! ### the folders of a file system: walked from node 0, each met once, against: one name each, and a way up to node 0 -/
section Graph
variable (E : Nat → List Nat) (F : Nat → Bool) (n : Nat)
def gKids (i : Nat) : List Nat := (E i).filter F
def gCnt (j : Nat) : Nat := ((List.range n).flatMap E).count j
/-- k steps up from j lead to node 0 -/
inductive GUp (E : Nat → List Nat) : Nat → Nat → Prop
  | top : GUp E 0 0
  | step {i j k : Nat} : j ∈ E i → GUp E k i → GUp E (k + 1) j
structure GInv (todo M : List Nat) : Prop where
  cnt : ∀ j, F j = true → todo.count j + M.count j = (if j = 0 then 1 else 0) + (M.flatMap E).count j
  inT : ∀ j ∈ todo, F j = true ∧ j < n ∧ ∃ k, k ≤ M.length ∧ GUp E k j
  inM : ∀ j ∈ M, F j = true ∧ j < n ∧ ∃ k, k < M.length ∧ GUp E k j
  nd : M.Nodup
theorem gInv_start (h0 : F 0 = true) (hn : 0 < n) : GInv E F n [0] [] where
  cnt := by intro j _; by_cases h : j = 0 <;> simp [h, List.count_cons] ; omega
  inT := by intro j hj; simp at hj; subst hj; exact ⟨h0, hn, 0, Nat.le_refl _, .top⟩
  inM := by intro j hj; cases hj
  nd := List.nodup_nil
theorem gKids_count {j : Nat} (i : Nat) (h : F j = true) : (gKids E F i).count j = (E i).count j := by
  unfold gKids; rw [List.count_filter h]
theorem gInv_step {i : Nat} {rest M : List Nat} (hE : ∀ i j, i < n → j ∈ E i → j < n) (h : GInv E F n (i :: rest) M) (hi : i ∉ M) : GInv E F n (rest ++ gKids E F i) (M ++ [i]) where
  cnt := by
    intro j hj
    have := h.cnt j hj
    rw [List.count_append, List.count_append, List.flatMap_append, List.count_append, gKids_count E F i hj]
    rw [List.count_cons] at this
    rw [List.count_singleton]
    have e : [i].flatMap E = E i := by simp
    rw [e]
    omega
  inT := by
    intro j hj
    obtain ⟨a, b, k, c, d⟩ := h.inT i (by simp)
    rcases List.mem_append.1 hj with h1 | h1
    · obtain ⟨a, b, k, c, d⟩ := h.inT j (by simp [h1])
      exact ⟨a, b, k, by simp; omega, d⟩
    · unfold gKids at h1
      obtain ⟨h1, h2⟩ := List.mem_filter.1 h1
      exact ⟨h2, hE i j b h1, k + 1, by simp; omega, .step h1 d⟩
  inM := by
    intro j hj
    rcases List.mem_append.1 hj with h1 | h1
    · obtain ⟨a, b, k, c, d⟩ := h.inM j h1
      exact ⟨a, b, k, by simp; omega, d⟩
    · have : j = i := by simpa using h1
      subst this
      obtain ⟨a, b, k, c, d⟩ := h.inT j (by simp)
      exact ⟨a, b, k, by simp; omega, d⟩
  nd := by
    rw [List.nodup_append]
    refine ⟨h.nd, by simp, ?_⟩
    intro a ha b hb
    have : b = i := by simpa using hb
    subst this
    rintro rfl
    exact hi ha
/-- what is met is a part of all -/
theorem gPart {M : List Nat} (nd : M.Nodup) (h : ∀ j ∈ M, j < n) : List.Perm (M ++ (List.range n).filter (fun j => decide (j ∉ M))) (List.range n) := by
  rw [List.perm_ext_iff_of_nodup]
  · intro a
    simp only [List.mem_append, List.mem_filter, List.mem_range, decide_eq_true_eq]
    constructor
    · rintro (h1 | h1)
      · exact h a h1
      · exact h1.1
    · intro h1
      by_cases c : a ∈ M
      · exact Or.inl c
      · exact Or.inr ⟨h1, c⟩
  · rw [List.nodup_append]
    refine ⟨nd, List.nodup_range.filter _, ?_⟩
    intro a ha b hb
    rintro rfl
    simp at hb
    exact hb.2 ha
  · exact List.nodup_range
theorem gPart_count {M : List Nat} (nd : M.Nodup) (h : ∀ j ∈ M, j < n) (j : Nat) : (M.flatMap E).count j + (((List.range n).filter (fun j => decide (j ∉ M))).flatMap E).count j = gCnt E n j := by
  unfold gCnt
  rw [← ((gPart n nd h).flatMap_right E).count_eq, List.flatMap_append, List.count_append]
theorem gPart_len {M : List Nat} (nd : M.Nodup) (h : ∀ j ∈ M, j < n) : M.length ≤ n := by
  have := (gPart n nd h).length_eq
  rw [List.length_append, List.length_range] at this
  omega
/-- where each folder has one name and node 0 none, no folder is met twice -/
theorem gOnce {i : Nat} {rest M : List Nat} (h : GInv E F n (i :: rest) M) (h0 : gCnt E n 0 = 0) (h1 : ∀ j, j < n → F j = true → 0 < j → gCnt E n j = 1) : i ∉ M := by
  intro hm
  obtain ⟨a, b, _⟩ := h.inT i (by simp)
  have e := h.cnt i a
  have p := gPart_count E n h.nd (fun j hj => (h.inM j hj).2.1) i
  have c1 : 1 ≤ (i :: rest).count i := List.count_pos_iff.2 (by simp)
  have c2 : 1 ≤ M.count i := List.count_pos_iff.2 hm
  by_cases z : i = 0
  · subst z; rw [if_pos rfl] at e; omega
  · rw [if_neg z] at e; have := h1 i b a (by omega); omega
/-- at the end all folders from which one comes up to node 0 were met -/
theorem gMet {M : List Nat} (h : GInv E F n [] M) (hF : ∀ i j, j ∈ E i → F i = true) {k j : Nat} (hu : GUp E k j) (hj : F j = true) : j ∈ M := by
  induction hu with
  | top =>
    have e := h.cnt 0 hj
    rw [if_pos rfl] at e
    simp at e
    exact List.count_pos_iff.1 (by omega)
  | @step i j k hm hu ih =>
    have hi := ih (hF i j hm)
    have e := h.cnt j hj
    simp at e
    have : 1 ≤ (M.flatMap E).count j := List.count_pos_iff.2 (List.mem_flatMap.2 ⟨i, hi, hm⟩)
    exact List.count_pos_iff.1 (by omega)
/-- at the end, where all folders were met, each but node 0 has one name -/
theorem gOne {M : List Nat} (h : GInv E F n [] M) (hF : ∀ i j, j ∈ E i → F i = true) (hall : ∀ j, j < n → F j = true → j ∈ M) {j : Nat} (hj : F j = true) (hjn : j < n) (hj0 : 0 < j) : gCnt E n j = 1 := by
  have p := gPart_count E n h.nd (fun j hj => (h.inM j hj).2.1) j
  have e := h.cnt j hj
  rw [if_neg (by omega)] at e
  have z : (((List.range n).filter (fun j => decide (j ∉ M))).flatMap E).count j = 0 := by
    rw [List.count_eq_zero]
    intro hm
    obtain ⟨i, h1, h2⟩ := List.mem_flatMap.1 hm
    simp at h1
    exact h1.2 (hall i h1.1 (hF i j h2))
  have m1 : M.count j = 1 := by
    have := List.count_pos_iff.2 (hall j hjn hj)
    have := List.nodup_iff_count.1 h.nd j
    omega
  simp at e
  omega
theorem gUp_of {M : List Nat} (h : GInv E F n [] M) {j : Nat} (hj : j ∈ M) : ∃ k, k < n ∧ GUp E k j := by
  obtain ⟨_, _, k, a, b⟩ := h.inM j hj
  have := gPart_len n h.nd (fun j hj => (h.inM j hj).2.1)
  exact ⟨k, by omega, b⟩
theorem gCnt_pos {j : Nat} : 0 < gCnt E n j ↔ ∃ i, i < n ∧ j ∈ E i := by
  unfold gCnt
  rw [List.count_pos_iff, List.mem_flatMap]
  simp
theorem gUniq {i i' j : Nat} (h : gCnt E n j = 1) (hi : i < n) (hi' : i' < n) (hj : j ∈ E i) (hj' : j ∈ E i') : i = i' := by
  by_cases e : i = i'
  · exact e
  · have p := gPart_count E n (M := [i, i']) (by simp [e]) (by intro a ha; simp at ha; omega) j
    have e1 : [i, i'].flatMap E = E i ++ E i' := by simp
    rw [e1, List.count_append] at p
    have := List.count_pos_iff.2 hj
    have := List.count_pos_iff.2 hj'
    omega
/-- the walk up by the last folder that has a name of each node -/
def gUp (A : Nat → Nat) : Nat → Nat → Bool
  | 0, j => decide (j = 0)
  | f + 1, j => decide (j = 0) || gUp A f (A j)
theorem gUp_zero (A : Nat → Nat) (f : Nat) : gUp A f 0 = true := by cases f <;> rfl
theorem gUp_yes {A : Nat → Nat} (hA : ∀ j, 0 < gCnt E n j → A j < n ∧ j ∈ E (A j)) (hE : ∀ i, n ≤ i → E i = []) (hF : ∀ i j, j ∈ E i → F i = true)
    (h1 : ∀ j, F j = true → 0 < j → j < n → gCnt E n j = 1) (hn : ∀ i j, j ∈ E i → j < n) {k j : Nat} (h : GUp E k j) : ∀ f, F j = true → k ≤ f → gUp A f j = true := by
  induction h with
  | top => intro f _ _; exact gUp_zero A f
  | @step i j k hm hu ih =>
    intro f hj hk
    obtain ⟨f, rfl⟩ : ∃ m, f = m + 1 := ⟨f - 1, by omega⟩
    unfold gUp
    by_cases z : j = 0
    · simp [z]
    · have hi : i < n := by
        by_cases c : i < n
        · exact c
        · rw [hE i (by omega)] at hm; cases hm
      have e := h1 j hj (by omega) (hn i j hm)
      obtain ⟨a, b⟩ := hA j (by omega)
      have : A j = i := gUniq E n e a hi b hm
      rw [this, ih f (hF i j hm) (by omega)]
      simp
theorem gUp_no {A : Nat → Nat} (hA : ∀ j, 0 < gCnt E n j → A j < n ∧ j ∈ E (A j)) (hF : ∀ i j, j ∈ E i → F i = true)
    (h1 : ∀ j, F j = true → 0 < j → j < n → gCnt E n j = 1) : ∀ (f j : Nat), F j = true → j < n → gUp A f j = true → ∃ k, GUp E k j := by
  intro f
  induction f with
  | zero =>
    intro j _ _ h; have : j = 0 := by simpa [gUp] using h
    subst this; exact ⟨0, .top⟩
  | succ f ih =>
    intro j hj hjn h
    unfold gUp at h
    by_cases z : j = 0
    · subst z; exact ⟨0, .top⟩
    · have e := h1 j hj (by omega) hjn
      obtain ⟨a, b⟩ := hA j (by omega)
      simp [z] at h
      obtain ⟨k, hk⟩ := ih (A j) (hF _ j b) a h
      exact ⟨k + 1, .step b hk⟩
end Graph
/-! ### FsOk of the program: the last loop, with the walk up -/
def upA (x4 : List Int) (j : Nat) : Nat := (rd3 x4 (j : Int)).toNat
theorem impl_up (ns : List S34) (x3 x4 : List Int) (h4 : x4.length = 10) (hA : ∀ j : Nat, j < 10 → 0 ≤ rd3 x4 (j : Int) ∧ rd3 x4 (j : Int) < 10) (i : Nat) (m : Nat) (f : Nat) : ∀ (j s : Nat), j < 10 → s + f = 11 →
    ∃ m', m ≤ m' ∧ run T14 (m + f + 1) (J14.j36 (j : Int) (s : Int) ns 10 (i : Int) x3 x4) = if gUp (upA x4) f j = true then run T14 m' (J14.j41 ns 10 (i : Int) x3 x4) else some false := by
  induction f with
  | zero =>
    intro j s hj hs
    refine ⟨m, by omega, ?_⟩
    rw [run_succ, t14]
    simp only [step14, bne_int]
    by_cases c : j = 0
    · subst c; simp [gUp]
    · have q : ¬ (j : Int) = 0 := by omega
      have q2 : (s : Int) > 10 := by omega
      simp [gUp, c, q2]
  | succ f ih =>
    intro j s hj hs
    obtain ⟨a, b⟩ := hA j hj
    by_cases c : j = 0
    · subst c
      refine ⟨m + (f + 1), by omega, ?_⟩
      rw [run_succ, t14]
      simp [step14, gUp]
    · obtain ⟨m', g1, g2⟩ := ih (upA x4 j) (s + 1) (by unfold upA; omega) (by omega)
      refine ⟨m', g1, ?_⟩
      have q : ¬ (j : Int) = 0 := by omega
      have q2 : ¬ (s : Int) > 10 := by omega
      have q3 : (0 : Int) ≤ (j : Int) := by omega
      have q4 : (j : Int) < (x4.length : Int) := by omega
      rw [run_succ, t14]
      simp only [step14, bne_int, q, q2, q3, q4, decide_true, decide_false, Bool.not_false, cond_true, cond_false]
      rw [w64_id (n := (s : Int) + 1) (by omega) (by omega)]
      have e : ((upA x4 j : Nat) : Int) = rd3 x4 (j : Int) := by unfold upA; omega
      rw [e, show ((s + 1 : Nat) : Int) = (s : Int) + 1 by omega, show m + f + 1 = m + (f + 1) by omega] at g2
      rw [g2]
      simp [gUp, c]
def condI (ns : List S34) (x3 x4 : List Int) (j : Nat) : Bool := if (nd ns j).f0 = 0 then true else decide ((nd ns j).f4 = rd3 x3 (j : Int)) && (!(decide ((nd ns j).f0 = 1) && (decide ((nd ns j).f4 = 0) && decide ((nd ns j).f5 = 0))) && (!(decide ((nd ns j).f0 = 2) && (decide (0 < j) && decide ((nd ns j).f4 ≠ 1))) && (!(decide (j = 0) && decide ((nd ns j).f4 ≠ 0)) && (decide ((nd ns j).f0 ≠ 2) || gUp (upA x4) 11 j))))
def condIF (ns : List S34) (x3 x4 : List Int) (i : Nat) : Nat → Bool
  | 0 => true
  | d + 1 => condI ns x3 x4 i && condIF ns x3 x4 (i + 1) d
theorem impl_ways (ns : List S34) (x3 x4 : List Int) (hns : ns.length = 10) (h3 : x3.length = 10) (h4 : x4.length = 10) (hA : ∀ j : Nat, j < 10 → 0 ≤ rd3 x4 (j : Int) ∧ rd3 x4 (j : Int) < 10) (d : Nat) : ∀ (i k : Nat), i + d = 10 → 20 * (d + 1) ≤ k →
    run T14 k (J14.j25 ns 10 (i : Int) x3 x4) = some (condIF ns x3 x4 i d) := by
  induction d with
  | zero =>
    intro i k hi hk
    obtain ⟨k, rfl⟩ : ∃ m, k = m + 1 := ⟨k - 1, by omega⟩
    have a0 : ¬ (i : Int) < 10 := by omega
    rw [run_succ, t14]
    simp only [step14, a0, decide_false, cond_false]; rfl
  | succ d ih =>
    intro i k hi hk
    have w : w64 ((i : Int) + 1) = ((i + 1 : Nat) : Int) := wsucc (show i < 10 by omega) (by omega)
    have nx : ∀ k, 20 * (d + 1) + 1 ≤ k → run T14 k (J14.j41 ns 10 (i : Int) x3 x4) = some (condIF ns x3 x4 (i + 1) d) := by
      intro k g
      obtain ⟨k, rfl⟩ : ∃ m, k = m + 1 := ⟨k - 1, by clear w; omega⟩
      rw [run_succ, t14]
      simp only [step14, w]
      exact ih (i + 1) k (by clear w; omega) (by clear w; omega)
    clear ih w
    have eq0 : rd34 ns (i : Int) = nd ns i := rfl
    rw [show condIF ns x3 x4 i (d + 1) = (condI ns x3 x4 i && condIF ns x3 x4 (i + 1) d) from rfl]
    unfold condI
    generalize condIF ns x3 x4 (i + 1) d = C at nx ⊢
    have up : ∀ K, 20 * (d + 1) + 13 ≤ K → run T14 K (J14.j36 (i : Int) 0 ns 10 (i : Int) x3 x4) = some (gUp (upA x4) 11 i && C) := by
      intro K hK
      obtain ⟨m, rfl⟩ : ∃ m, K = m + 11 + 1 := ⟨K - 12, by omega⟩
      obtain ⟨m', g1, g2⟩ := impl_up ns x3 x4 h4 hA i m 11 i 0 (by omega) rfl
      refine g2.trans ?_
      rw [nx m' (by omega)]
      cases gUp (upA x4) 11 i <;> rfl
    generalize gUp (upA x4) 11 i = G at up ⊢
    generalize hz : nd ns i = z at eq0 ⊢
    clear hz hA
    have j33 : ∀ K, 20 * (d + 1) + 14 ≤ K → run T14 K (J14.j33 (i : Int) ns 10 (i : Int) x3 x4 z.f0 z.f1 z.f2 z.f3 z.f4 z.f5 z.f6 z.f7 z.f8) = some ((decide (z.f0 ≠ 2) || G) && C) := by
      intro K hK
      obtain ⟨K, rfl⟩ : ∃ m, K = m + 1 := ⟨K - 1, by omega⟩
      rw [run_succ, t14]
      simp only [step14, beq_int, up K (by omega), nx K (by omega)]
      by_cases c : z.f0 = 2
      · simp [c]
      · simp [c]
    have j31 : ∀ K, 20 * (d + 1) + 15 ≤ K → run T14 K (J14.j31 (i : Int) ns 10 (i : Int) x3 x4 z.f0 z.f1 z.f2 z.f3 z.f4 z.f5 z.f6 z.f7 z.f8) = some (!(decide (i = 0) && decide (z.f4 ≠ 0)) && ((decide (z.f0 ≠ 2) || G) && C)) := by
      intro K hK
      obtain ⟨K, rfl⟩ : ∃ m, K = m + 1 := ⟨K - 1, by omega⟩
      rw [run_succ, t14]
      simp only [step14, beq_int, bne_int, j33 K (by omega)]
      by_cases c : i = 0
      · subst c
        by_cases c2 : z.f4 = 0 <;> simp [c2]
      · have : ¬ (i : Int) = 0 := by omega
        simp [c, this]
    have j30 : ∀ K, 20 * (d + 1) + 16 ≤ K → run T14 K (J14.j30 (i : Int) ns 10 (i : Int) x3 x4 z.f0 z.f1 z.f2 z.f3 z.f4 z.f5 z.f6 z.f7 z.f8) = some (!(decide (z.f0 = 2) && (decide (0 < i) && decide (z.f4 ≠ 1))) && (!(decide (i = 0) && decide (z.f4 ≠ 0)) && ((decide (z.f0 ≠ 2) || G) && C))) := by
      intro K hK
      obtain ⟨K, rfl⟩ : ∃ m, K = m + 1 := ⟨K - 1, by omega⟩
      rw [run_succ, t14]
      simp only [step14, beq_int, bne_int, j33 K (by omega), j31 K (by omega), show decide ((i : Int) > 0) = decide (0 < i) from decide_eq_decide.2 (by omega)]
      by_cases c : z.f0 = 2
      · cases h0 : decide (0 < i)
        · simp [c, h0]
        · by_cases c2 : z.f4 = 1
          · simp [c, c2]
          · simp [c, c2]
      · simp [c]
    obtain ⟨k, rfl⟩ : ∃ m, k = m + 1 := ⟨k - 1, by omega⟩
    have a0 : (i : Int) < 10 := by omega
    have a1 : (0 : Int) ≤ (i : Int) := by omega
    have a2 : (i : Int) < (ns.length : Int) := by omega
    have a3 : (i : Int) < (x3.length : Int) := by omega
    rw [run_succ, t14]
    simp only [step14, a0, a1, a2, a3, decide_true, cond_true, eq0, beq_int, bne_int, nx k (by omega), j33 k (by omega), j30 k (by omega)]
    clear nx up j33 j31 j30
    generalize rd3 x3 (i : Int) = L
    by_cases c0 : z.f0 = 0
    · simp [c0]
    · by_cases c1 : z.f4 = L
      · by_cases c2 : z.f0 = 1
        · by_cases c3 : z.f4 = 0
          · by_cases c4 : z.f5 = 0
            · simp [c2, c3, c4, ← c1]
            · simp [c2, c3, c4, ← c1]
          · simp [c2, c3, ← c1]
        · simp [c0, c2, c1, Bool.and_assoc]
      · simp [c0, c1]
end Go.Sx
