/- The plain law FnFsLook, over what its functions compute: a part. No further condition. -/
import Derived.Test.YtpljcphiaajjaaaSzPFnFsLookc
set_option linter.unusedVariables false
set_option linter.unusedSimpArgs false
namespace Go.Sx
open Go.RowKit Go.Lib
set_option linter.unusedVariables false
set_option linter.unusedSimpArgs false
structure FitN (z : S34) : Prop where
  l : z.f8.length ≤ 1048576
  n : ∀ e ∈ z.f8, e.f0.size ≤ 1048576
theorem spec_ents (g40 : S34 → Option Bool) (g41 : S27 → Option (List Bool × Bool)) (ns : List S34) (hns : ns.length = 10) (i : Nat) (hi : i < 10) (hl : (nd ns i).f8.length ≤ 1048576) (he : ∀ e ∈ (nd ns i).f8, 0 ≤ e.f1 ∧ e.f1 ≤ 9) (m : Nat) (d : Nat) : ∀ (j : Nat) (x3 : List Int), j + d = (nd ns i).f8.length → x3.length = 10 →
    run (step16 g40 g41) (m + d + 1) (J16.j10 (i : Int) (j : Int) ns x3) = run (step16 g40 g41) m (J16.j5 ((i + 1 : Nat) : Int) ns (bumpE x3 ((nd ns i).f8.drop j))) := by
  have eq0 : rd34 ns (i : Int) = nd ns i := rfl
  have a1 : (0 : Int) ≤ (i : Int) := by omega
  have a2 : (i : Int) < (ns.length : Int) := by omega
  induction d with
  | zero =>
    intro j x3 hj h3
    have a3 : ¬ (j : Int) < ((nd ns i).f8.length : Int) := by omega
    rw [run_succ]
    simp only [step16, a1, a2, a3, eq0, decide_true, decide_false, cond_true, cond_false]
    rw [List.drop_eq_nil_of_le (by omega), wsucc hi (by omega)]
    rfl
  | succ d ih =>
    intro j x3 hj h3
    have hjl : j < (nd ns i).f8.length := by omega
    have hm : rd47 (nd ns i).f8 (j : Int) ∈ (nd ns i).f8 := rd47_mem hjl
    obtain ⟨a, b⟩ := he _ hm
    have w : w64 ((j : Int) + 1) = ((j + 1 : Nat) : Int) := wsucc hjl (by omega)
    have e := ih (j + 1) (x3.set (rd47 (nd ns i).f8 (j : Int)).f1.toNat (w64 (rd3 x3 (rd47 (nd ns i).f8 (j : Int)).f1 + 1))) (by clear w; omega) (by rw [List.length_set]; exact h3)
    have a3 : (j : Int) < ((nd ns i).f8.length : Int) := by clear w; omega
    have a4 : (0 : Int) ≤ (j : Int) := by clear w; omega
    have a5 : (rd47 (nd ns i).f8 (j : Int)).f1 < (x3.length : Int) := by clear w; omega
    rw [drop_rd hjl, show m + (d + 1) + 1 = m + d + 1 + 1 by clear w; omega, run_succ]
    simp only [step16, a1, a2, a3, a4, a5, a, eq0, decide_true, cond_true, w, e]
    rfl
noncomputable def nodeSF (ns : List S34) (i : Nat) : Nat → Bool
  | 0 => true
  | d + 1 => nodeS (nd ns i) && nodeSF ns (i + 1) d
theorem entSF_mem {es : List S47} : ∀ (d j : Nat), j + d = es.length → entSF es j d = true → ∀ q, j ≤ q → q < es.length → entS es q = true := by
  intro d
  induction d with
  | zero => intro j hj _ q h1 h2; omega
  | succ d ih =>
    intro j hj h q h1 h2
    unfold entSF at h
    obtain ⟨a, b⟩ := Bool.and_eq_true_iff.1 h
    by_cases c : j = q
    · subst c; exact a
    · exact ih (j + 1) (by omega) b q (by omega) h2
theorem mem_rd {es : List S47} {e : S47} (h : e ∈ es) : ∃ j, j < es.length ∧ rd47 es (j : Int) = e := by
  obtain ⟨j, hj, rfl⟩ := List.getElem_of_mem h
  refine ⟨j, hj, ?_⟩
  unfold rd47
  rw [List.getD_eq_getElem?_getD, show ((j : Int)).toNat = j by omega, List.getElem?_eq_getElem hj]; rfl
theorem nodeS_ents {z : S34} (h : nodeS z = true) : ∀ e ∈ z.f8, 1 ≤ e.f1 ∧ e.f1 ≤ 9 := by
  intro e he
  unfold nodeS at h
  by_cases c : z.f0 = 0
  · rw [if_pos c] at h; rw [plain_len h] at he; cases he
  · rw [if_neg c] at h
    simp only [Bool.and_eq_true] at h
    obtain ⟨j, hj, rfl⟩ := mem_rd he
    have := entSF_mem z.f8.length 0 (by omega) h.2.2.2 j (by omega) hj
    unfold entS at this
    simp only [Bool.and_eq_true, decide_eq_true_eq] at this
    exact this.2
theorem spec_nodes {g40 : S34 → Option Bool} (g41 : S27 → Option (List Bool × Bool)) (hg : ∀ z, FitN z → g40 z = some (nodeS z)) (ns : List S34) (hns : ns.length = 10) (hf : ∀ i, i < 10 → FitN (nd ns i)) (d : Nat) : ∀ (i k : Nat) (x3 : List Int), i + d = 10 → 5000000 * (d + 1) + 15000000 ≤ k → x3.length = 10 →
    ∃ m', 20000000 ≤ m' ∧ run (step16 g40 g41) k (J16.j5 (i : Int) ns x3) = if nodeSF ns i d = true then run (step16 g40 g41) m' (J16.j5 10 ns (bumpF ns x3 i d)) else some false := by
  induction d with
  | zero =>
    intro i k x3 hi hk h3
    refine ⟨k, by omega, ?_⟩
    rw [show i = 10 by omega]; rfl
  | succ d ih =>
    intro i k x3 hi hk h3
    have hli := (hf i (by omega)).l
    obtain ⟨m, rfl⟩ : ∃ m, k = m + (nd ns i).f8.length + 1 + 1 := ⟨k - (nd ns i).f8.length - 2, by omega⟩
    obtain ⟨m2, g3, g4⟩ := ih (i + 1) m (bumpE x3 (nd ns i).f8) (by omega) (by omega) (by rw [bumpE_len]; exact h3)
    refine ⟨m2, g3, ?_⟩
    have eq0 : rd34 ns (i : Int) = nd ns i := rfl
    have a0 : (i : Int) < 10 := by omega
    have a1 : (0 : Int) ≤ (i : Int) := by omega
    have a2 : (i : Int) < (ns.length : Int) := by omega
    rw [run_succ]
    simp only [step16, a0, a1, a2, eq0, decide_true, cond_true, hg _ (hf i (by omega)), Option.bind_some]
    show _ = if (nodeS (nd ns i) && nodeSF ns (i + 1) d) = true then run (step16 g40 g41) m2 (J16.j5 10 ns (bumpF ns (bumpE x3 (nd ns i).f8) (i + 1) d)) else some false
    cases h : nodeS (nd ns i) with
    | false => simp
    | true =>
      have e := spec_ents g40 g41 ns hns i (by omega) hli (fun e he => by have := nodeS_ents h e he; omega) m (nd ns i).f8.length 0 x3 (by omega) h3
      rw [Bool.true_and, ← g4, Bool.not_true, cond_false]
      exact e
def kE (ns : List S34) (i : Nat) : List Nat := (nd ns i).f8.map (fun e => e.f1.toNat)
def kF (ns : List S34) (j : Nat) : Bool := decide ((nd ns j).f0 = 2)
def cstI (n : Nat) : Int := (n : Int)
theorem spec_kids (ns : List S34) (hns : ns.length = 10) (i : Nat) (hi : i < 10) (hl : (nd ns i).f8.length ≤ 1048576) (he : ∀ e ∈ (nd ns i).f8, 0 ≤ e.f1 ∧ e.f1 ≤ 9) (x4 : List Bool) (m : Nat) (d : Nat) : ∀ (j : Nat) (T : List Nat), j + d = (nd ns i).f8.length → T.length + d ≤ 20000000 →
    run step41 (m + 2 * d + 1) (J41.j10 (i : Int) (j : Int) ns x4 (T.map cstI)) = run step41 m (J41.j3 ns x4 ((T ++ (((nd ns i).f8.drop j).map (fun e => e.f1.toNat)).filter (kF ns)).map cstI)) := by
  have eq0 : rd34 ns (i : Int) = nd ns i := rfl
  have a1 : (0 : Int) ≤ (i : Int) := by omega
  have a2 : (i : Int) < (ns.length : Int) := by omega
  induction d with
  | zero =>
    intro j T hj hT
    have a3 : ¬ (j : Int) < ((nd ns i).f8.length : Int) := by omega
    rw [run_succ]
    simp only [step41, a1, a2, a3, eq0, decide_true, decide_false, cond_true, cond_false]
    rw [List.drop_eq_nil_of_le (by omega)]
    simp
  | succ d ih =>
    intro j T hj hT
    have hjl : j < (nd ns i).f8.length := by omega
    have hm : rd47 (nd ns i).f8 (j : Int) ∈ (nd ns i).f8 := rd47_mem hjl
    obtain ⟨a, b⟩ := he _ hm
    have w : w64 ((j : Int) + 1) = ((j + 1 : Nat) : Int) := wsucc hjl (by omega)
    have a3 : (j : Int) < ((nd ns i).f8.length : Int) := by clear w; omega
    have a4 : (0 : Int) ≤ (j : Int) := by clear w; omega
    have a5 : (rd47 (nd ns i).f8 (j : Int)).f1 < (ns.length : Int) := by clear w; omega
    have j11 : ∀ x Z, run step41 (m + 2 * d + 1 + 1) (J41.j11 (i : Int) (j : Int) ns x Z) = run step41 (m + 2 * d + 1) (J41.j10 (i : Int) ((j + 1 : Nat) : Int) ns x Z) := by
      intro x Z
      rw [run_succ]
      simp only [step41, w]
    rw [drop_rd hjl, show m + 2 * (d + 1) + 1 = m + 2 * d + 1 + 1 + 1 by clear w; omega, run_succ]
    simp only [step41, a1, a2, a3, a4, a5, a, eq0, decide_true, cond_true, j11, beq_int]
    generalize rd47 (nd ns i).f8 (j : Int) = e at a b ⊢
    rw [List.map_cons]
    have en : rd34 ns e.f1 = nd ns e.f1.toNat := by unfold nd; congr 1; clear w; omega
    have ec : cstI e.f1.toNat = e.f1 := by unfold cstI; clear w; omega
    rw [en]
    by_cases c : (nd ns e.f1.toNat).f0 = 2
    · have a6 : ((T.map cstI).length + [e.f1].length) * 8 ≤ 140737488355328 := by rw [List.length_map]; simp; clear w; omega
      rw [decide_eq_true c, cond_true, decide_eq_true a6, cond_true, List.filter_cons_of_pos (by unfold kF; exact decide_eq_true c)]
      have := ih (j + 1) (T ++ [e.f1.toNat]) (by clear w; omega) (by rw [List.length_append]; simp; clear w; omega)
      rw [List.map_append, List.map_cons, ec, List.map_nil, List.append_assoc] at this
      exact this
    · rw [decide_eq_false c, cond_false, List.filter_cons_of_neg (by unfold kF; simpa using c)]
      exact ih (j + 1) T (by clear w; omega) (by clear w; omega)
def mrk (M : List Nat) : List Bool := (List.range 10).map (fun j => decide (j ∈ M))
theorem mrk_rd {M : List Nat} {j : Nat} (h : j < 10) : rd4 (mrk M) (j : Int) = decide (j ∈ M) := by
  rw [rd4_at (show j < (mrk M).length by simp [mrk]; exact h)]
  simp [mrk]
theorem mrk_set {M : List Nat} {i : Nat} : (mrk M).set i true = mrk (M ++ [i]) := by
  apply List.ext_getElem
  · simp [mrk]
  · intro j h1 h2
    rw [List.getElem_set]
    by_cases c : i = j
    · subst c; simp [mrk]
    · rw [if_neg c]
      simp [mrk]
      intro h; exact absurd h.symm c
theorem spec_folders (ns : List S34) (hns : ns.length = 10) (hl : ∀ i, i < 10 → (nd ns i).f8.length ≤ 1048576) (he : ∀ i, i < 10 → ∀ e ∈ (nd ns i).f8, 0 ≤ e.f1 ∧ e.f1 ≤ 9) (d : Nat) : ∀ (k : Nat) (T M : List Nat), M.length + d = 10 → T.length ≤ 1 + 1048576 * M.length → 2200000 * (d + 1) ≤ k → GInv (kE ns) (kF ns) 10 T M →
    ∃ x4 b, run step41 k (J41.j3 ns (mrk M) (T.map cstI)) = some (x4, b) ∧ (b = true → ∃ M', GInv (kE ns) (kF ns) 10 [] M' ∧ x4 = mrk M') ∧ (b = false → ∃ i rest M', GInv (kE ns) (kF ns) 10 (i :: rest) M' ∧ i ∈ M') := by
  have hE : ∀ i j, i < 10 → j ∈ kE ns i → j < 10 := by
    intro i j hi hj
    unfold kE at hj
    obtain ⟨e, h1, h2⟩ := List.mem_map.1 hj
    have := he i hi e h1
    omega
  have nil : ∀ k M, 1 ≤ k → run step41 k (J41.j3 ns (mrk M) (([] : List Nat).map cstI)) = some (mrk M, true) := by
    intro k M hk
    obtain ⟨k, rfl⟩ : ∃ m, k = m + 1 := ⟨k - 1, by omega⟩
    rw [run_succ]
    simp [step41]
  have one : ∀ k i T M, 1 ≤ k → i < 10 → T.length ≤ 20000000 → run step41 k (J41.j3 ns (mrk M) ((i :: T).map cstI)) = cond (decide (i ∈ M)) (some (mrk M, false)) (run step41 (k - 1) (J41.j10 (i : Int) 0 ns (mrk (M ++ [i])) (T.map cstI))) := by
    intro k i T M hk b hT
    obtain ⟨k, rfl⟩ : ∃ m, k = m + 1 := ⟨k - 1, by omega⟩
    have r0 : rd3 ((i :: T).map cstI) 0 = (i : Int) := rfl
    have r1 : ([] : List Int) ++ List.drop 1 (List.take ((i :: T).map cstI).length ((i :: T).map cstI)) = T.map cstI := by rw [List.take_length]; rfl
    have r2 : ((((i :: T).map cstI)).length : Int) = (T.length : Int) + 1 := by simp
    have l1 : (((([] : List Int).length + (List.drop 1 (List.take ((i :: T).map cstI).length ((i :: T).map cstI))).length) * 8) ≤ 140737488355328) := by
      rw [List.take_length]; simp; omega
    have b0 : (((i :: T).map cstI).length : Int) > 0 := by omega
    have b1 : (0 : Int) < (((i :: T).map cstI).length : Int) := by omega
    have b2 : (1 : Int) ≤ (((i :: T).map cstI).length : Int) := by omega
    have b3 : (0 : Int) ≤ (i : Int) := by omega
    have b4 : (i : Int) < ((mrk M).length : Int) := by simp [mrk]; omega
    rw [run_succ]
    simp only [step41, r0, r1, l1, b0, b1, b2, b3, b4, decide_true, cond_true, mrk_rd b, show ((i : Int)).toNat = i by omega, mrk_set]
    rfl
  induction d with
  | zero =>
    intro k T M hM hT hk h
    cases T with
    | nil => exact ⟨mrk M, true, nil k M (by omega), fun _ => ⟨M, h, rfl⟩, fun e => (by cases e)⟩
    | cons i T =>
      obtain ⟨a, b, _⟩ := h.inT i (by simp)
      have hT' : T.length + 1 ≤ 1 + 1048576 * M.length := by simpa using hT
      by_cases c : i ∈ M
      · refine ⟨mrk M, false, ?_, fun e => (by cases e), fun _ => ⟨i, T, M, h, c⟩⟩
        rw [one k i T M (by omega) b (by omega), decide_eq_true c]; rfl
      · have := gPart_len 10 (gInv_step _ _ _ hE h c).nd (fun j hj => ((gInv_step _ _ _ hE h c).inM j hj).2.1)
        simp at this
        omega
  | succ d ih =>
    intro k T M hM hT hk h
    cases T with
    | nil => exact ⟨mrk M, true, nil k M (by omega), fun _ => ⟨M, h, rfl⟩, fun e => (by cases e)⟩
    | cons i T =>
      obtain ⟨a, b, _⟩ := h.inT i (by simp)
      have hli := hl i b
      have hT' : T.length + 1 ≤ 1 + 1048576 * M.length := by simpa using hT
      by_cases c : i ∈ M
      · refine ⟨mrk M, false, ?_, fun e => (by cases e), fun _ => ⟨i, T, M, h, c⟩⟩
        rw [one k i T M (by omega) b (by omega), decide_eq_true c]; rfl
      · obtain ⟨m, rfl⟩ : ∃ m, k = m + 2 * (nd ns i).f8.length + 1 + 1 := ⟨k - 2 * (nd ns i).f8.length - 2, by omega⟩
        have h' := gInv_step _ _ _ hE h c
        have k' := spec_kids ns hns i b hli (he i b) (mrk (M ++ [i])) m (nd ns i).f8.length 0 T (by omega) (by omega)
        have ln : (gKids (kE ns) (kF ns) i).length ≤ 1048576 := by
          unfold gKids kE
          refine Nat.le_trans (List.length_filter_le _ _) ?_
          rw [List.length_map]; exact hli
        obtain ⟨x4, bb, g1, g2, g3⟩ := ih m (T ++ gKids (kE ns) (kF ns) i) (M ++ [i]) (by simp; omega) (by simp; omega) (by omega) h'
        refine ⟨x4, bb, ?_, g2, g3⟩
        rw [one _ i T M (by omega) b (by omega), decide_eq_false c, cond_false, ← g1]
        exact k'
def condS (ns : List S34) (x3 : List Int) (x6 : List Bool) (j : Nat) : Bool := if (nd ns j).f0 = 0 then !decide (rd3 x3 (j : Int) > 0) else decide ((nd ns j).f4 = rd3 x3 (j : Int)) && (!(decide ((nd ns j).f0 = 1) && (decide ((nd ns j).f4 = 0) && decide ((nd ns j).f5 = 0))) && (decide ((nd ns j).f0 ≠ 2) || rd4 x6 (j : Int)))
def condSF (ns : List S34) (x3 : List Int) (x6 : List Bool) (i : Nat) : Nat → Bool
  | 0 => true
  | d + 1 => condS ns x3 x6 i && condSF ns x3 x6 (i + 1) d
theorem spec_ways (g40 : S34 → Option Bool) (g41 : S27 → Option (List Bool × Bool)) (ns : List S34) (x3 : List Int) (x6 : List Bool) (hns : ns.length = 10) (h3 : x3.length = 10) (h6 : x6.length = 10) (d : Nat) : ∀ (i k : Nat), i + d = 10 → 3 * (d + 1) ≤ k →
    run (step16 g40 g41) k (J16.j17 x6 true (i : Int) ns x3) = some (condSF ns x3 x6 i d) := by
  induction d with
  | zero =>
    intro i k hi hk
    obtain ⟨k, rfl⟩ : ∃ m, k = m + 1 := ⟨k - 1, by omega⟩
    have a0 : ¬ (i : Int) < 10 := by omega
    rw [run_succ]
    simp only [step16, a0, decide_false, cond_false]; rfl
  | succ d ih =>
    intro i k hi hk
    obtain ⟨m, rfl⟩ : ∃ m, k = m + 1 + 1 + 1 := ⟨k - 3, by omega⟩
    have w : w64 ((i : Int) + 1) = ((i + 1 : Nat) : Int) := wsucc (show i < 10 by omega) (by omega)
    have nx := ih (i + 1) m (by clear w; omega) (by clear w; omega)
    rw [← w] at nx
    clear w ih
    have eq0 : rd34 ns (i : Int) = nd ns i := rfl
    have a0 : (i : Int) < 10 := by omega
    have a1 : (0 : Int) ≤ (i : Int) := by omega
    have a2 : (i : Int) < (ns.length : Int) := by omega
    have a3 : (i : Int) < (x3.length : Int) := by omega
    have a4 : (i : Int) < (x6.length : Int) := by omega
    rw [run_succ]
    simp only [step16, a0, decide_true, cond_true]
    rw [run_succ]
    simp only [step16, a1, a2, a3, a4, eq0, decide_true, cond_true, beq_int, bne_int, run_succ, nx]
    rw [show condSF ns x3 x6 i (d + 1) = (condS ns x3 x6 i && condSF ns x3 x6 (i + 1) d) from rfl]
    unfold condS
    clear nx
    generalize nd ns i = z
    generalize condSF ns x3 x6 (i + 1) d = C
    generalize rd3 x3 (i : Int) = L
    by_cases c0 : z.f0 = 0
    · by_cases cl : L > 0 <;> simp [c0, cl]
    · by_cases c1 : z.f4 = L
      · by_cases c2 : z.f0 = 1
        · by_cases c3 : z.f4 = 0
          · by_cases c4 : z.f5 = 0
            · simp [c2, c3, c4, ← c1]
            · simp [c2, c3, c4, ← c1]
          · simp [c2, c3, ← c1]
        · by_cases c3 : z.f0 = 2
          · cases rd4 x6 (i : Int) <;> simp [c3, ← c1]
          · simp [c0, c2, c3, ← c1]
      · simp [c0, c1]
end Go.Sx
