/- The plain law FnFsLook, over what its functions compute: a part. No further condition. -/
import Derived.Test.YtpljcphiaajjaaaSzPFnFsLookd
set_option linter.unusedVariables false
set_option linter.unusedSimpArgs false
namespace Go.Sx
open Go.RowKit Go.Lib
set_option linter.unusedVariables false
set_option linter.unusedSimpArgs false
/-! ### FsOk: what the loops have counted, and that both say alike -/
theorem rd_set {xs : List Int} {t : Nat} {v : Int} {q : Nat} (ht : t < xs.length) : rd3 (xs.set t v) (q : Int) = if t = q then v else rd3 xs (q : Int) := by
  unfold rd3
  rw [show ((q : Int)).toNat = q by omega, List.getD_eq_getElem?_getD, List.getD_eq_getElem?_getD, List.getElem?_set]
  by_cases c : t = q
  · subst c; simp [ht]
  · simp [c]
theorem bumpE_rd (es : List S47) : ∀ (xs : List Int) (B : Int), xs.length = 10 → (∀ e ∈ es, 0 ≤ e.f1 ∧ e.f1 ≤ 9) → (∀ q : Nat, q < 10 → 0 ≤ rd3 xs (q : Int) ∧ rd3 xs (q : Int) ≤ B) → B + (es.length : Int) ≤ 4611686018427387904 → ∀ q : Nat, q < 10 → rd3 (bumpE xs es) (q : Int) = rd3 xs (q : Int) + ((es.map (fun e => e.f1.toNat)).count q : Nat) := by
  induction es with
  | nil => intro xs B _ _ _ _ q _; simp [bumpE]
  | cons e es ih =>
    intro xs B hx he hB hl q hq
    obtain ⟨a, b⟩ := he e (by simp)
    rw [List.length_cons] at hl
    have ht : e.f1.toNat < xs.length := by omega
    have re : rd3 xs e.f1 = rd3 xs ((e.f1.toNat : Nat) : Int) := by congr 1; omega
    have hb := hB e.f1.toNat (by omega)
    have w : w64 (rd3 xs e.f1 + 1) = rd3 xs e.f1 + 1 := w64_id (by omega) (by omega)
    unfold bumpE
    rw [ih (xs.set e.f1.toNat (w64 (rd3 xs e.f1 + 1))) (B + 1) (by rw [List.length_set]; exact hx) (fun e' h => he e' (by simp [h])) (by
      intro q' hq'
      rw [rd_set ht]
      have := hB q' hq'
      by_cases c : e.f1.toNat = q'
      · rw [if_pos c, w, re]; omega
      · rw [if_neg c]; omega) (by omega) q hq, rd_set ht, List.map_cons, List.count_cons]
    by_cases c : e.f1.toNat = q
    · rw [if_pos c, w, re, c]; simp; omega
    · rw [if_neg c]; simp [c]
theorem bumpF_len (ns : List S34) : ∀ (d i : Nat) (xs : List Int), (bumpF ns xs i d).length = xs.length := by
  intro d
  induction d with
  | zero => intro i xs; rfl
  | succ d ih => intro i xs; unfold bumpF; rw [ih, bumpE_len]
theorem markF_len (ns : List S34) : ∀ (d i : Nat) (xs : List Int), (markF ns xs i d).length = xs.length := by
  intro d
  induction d with
  | zero => intro i xs; rfl
  | succ d ih => intro i xs; unfold markF; rw [ih, markE_len]
theorem bumpF_rd (ns : List S34) (hl : ∀ i, i < 10 → (nd ns i).f8.length ≤ 1048576) (he : ∀ i, i < 10 → ∀ e ∈ (nd ns i).f8, 0 ≤ e.f1 ∧ e.f1 ≤ 9) (d : Nat) : ∀ (i : Nat) (xs : List Int) (B : Int), i + d = 10 → xs.length = 10 → (∀ q : Nat, q < 10 → 0 ≤ rd3 xs (q : Int) ∧ rd3 xs (q : Int) ≤ B) → B + 1048576 * (d : Int) ≤ 4000000000 → ∀ q : Nat, q < 10 → rd3 (bumpF ns xs i d) (q : Int) = rd3 xs (q : Int) + (((List.range' i d).flatMap (kE ns)).count q : Nat) := by
  induction d with
  | zero => intro i xs B _ _ _ _ q _; simp [bumpF]
  | succ d ih =>
    intro i xs B hi hx hB hb q hq
    have hli := hl i (by omega)
    have e1 := bumpE_rd (nd ns i).f8 xs B hx (he i (by omega)) hB (by omega)
    have cl : ∀ q, ((nd ns i).f8.map (fun e => e.f1.toNat)).count q ≤ 1048576 := by
      intro q
      refine Nat.le_trans List.count_le_length ?_
      rw [List.length_map]; exact hli
    unfold bumpF
    rw [ih (i + 1) (bumpE xs (nd ns i).f8) (B + 1048576) (by omega) (by rw [bumpE_len]; exact hx) (by
      intro q' hq'
      rw [e1 q' hq']
      have := hB q' hq'
      have := cl q'
      omega) (by omega) q hq, e1 q hq, List.range'_succ, List.flatMap_cons, List.count_append]
    unfold kE
    omega
theorem markE_rd (v : Int) (es : List S47) : ∀ (xs : List Int), xs.length = 10 → (∀ e ∈ es, 0 ≤ e.f1 ∧ e.f1 ≤ 9) → ∀ q : Nat, q < 10 → rd3 (markE xs v es) (q : Int) = if q ∈ es.map (fun e => e.f1.toNat) then v else rd3 xs (q : Int) := by
  induction es with
  | nil => intro xs _ _ q _; simp [markE]
  | cons e es ih =>
    intro xs hx he q hq
    obtain ⟨a, b⟩ := he e (by simp)
    unfold markE
    rw [ih _ (by rw [List.length_set]; exact hx) (fun e' h => he e' (by simp [h])) q hq, rd_set (by omega), List.map_cons]
    simp only [List.mem_cons]
    by_cases c : q ∈ es.map (fun e => e.f1.toNat)
    · rw [if_pos c, if_pos (Or.inr c)]
    · rw [if_neg c]
      by_cases c2 : e.f1.toNat = q
      · rw [if_pos c2, if_pos (Or.inl c2.symm)]
      · rw [if_neg c2, if_neg]
        rintro (h | h)
        · exact c2 h.symm
        · exact c h
theorem markF_rd (ns : List S34) (he : ∀ i, i < 10 → ∀ e ∈ (nd ns i).f8, 0 ≤ e.f1 ∧ e.f1 ≤ 9) (d : Nat) : ∀ (i : Nat) (xs : List Int), i + d = 10 → xs.length = 10 → (∀ q : Nat, q < 10 → 0 ≤ rd3 xs (q : Int) ∧ rd3 xs (q : Int) < 10) → (∀ q i' : Nat, q < 10 → i' < i → q ∈ kE ns i' → q ∈ kE ns (upA xs q)) →
    (∀ q : Nat, q < 10 → 0 ≤ rd3 (markF ns xs i d) (q : Int) ∧ rd3 (markF ns xs i d) (q : Int) < 10) ∧ (∀ q i' : Nat, q < 10 → i' < 10 → q ∈ kE ns i' → q ∈ kE ns (upA (markF ns xs i d) q)) := by
  induction d with
  | zero =>
    intro i xs hi hx h1 h2; obtain rfl : i = 10 := by omega
    exact ⟨h1, h2⟩
  | succ d ih =>
    intro i xs hi hx h1 h2
    have e1 := markE_rd (i : Int) (nd ns i).f8 xs hx (he i (by omega))
    unfold markF
    refine ih (i + 1) _ (by omega) (by rw [markE_len]; exact hx) ?_ ?_
    · intro q hq
      rw [e1 q hq]
      by_cases c : q ∈ (nd ns i).f8.map (fun e => e.f1.toNat)
      · rw [if_pos c]; omega
      · rw [if_neg c]; exact h1 q hq
    · intro q i' hq hi' hm
      unfold upA
      rw [e1 q hq]
      by_cases c : q ∈ (nd ns i).f8.map (fun e => e.f1.toNat)
      · rw [if_pos c, show ((i : Int)).toNat = i by omega]; exact c
      · rw [if_neg c]
        by_cases c2 : i' = i
        · subst c2; exact absurd hm c
        · exact h2 q i' hq (by omega) hm
theorem allF {f : Nat → Bool} {F : Nat → Nat → Bool} (h0 : ∀ i, F i 0 = true) (hs : ∀ i d, F i (d + 1) = (f i && F (i + 1) d)) : ∀ d i, F i d = true ↔ ∀ q, i ≤ q → q < i + d → f q = true := by
  intro d
  induction d with
  | zero =>
    intro i; constructor
    · intro _ q h1 h2; omega
    · intro _; exact h0 i
  | succ d ih =>
    intro i
    rw [hs, Bool.and_eq_true, ih]
    constructor
    · rintro ⟨a, b⟩ q h1 h2
      by_cases c : i = q
      · subst c; exact a
      · exact b q (by omega) (by omega)
    · intro h
      exact ⟨h i (by omega) (by omega), fun q h1 h2 => h q (by omega) (by omega)⟩
theorem bnot {b : Bool} : (!b) = true ↔ ¬ (b = true) := by cases b <;> simp
theorem condI_iff {ns : List S34} {x3 x4 : List Int} {j : Nat} : condI ns x3 x4 j = true ↔ ((nd ns j).f0 = 0 ∨ ((nd ns j).f4 = rd3 x3 (j : Int) ∧ ¬ ((nd ns j).f0 = 1 ∧ (nd ns j).f4 = 0 ∧ (nd ns j).f5 = 0) ∧ ¬ ((nd ns j).f0 = 2 ∧ 0 < j ∧ (nd ns j).f4 ≠ 1) ∧ ¬ (j = 0 ∧ (nd ns j).f4 ≠ 0) ∧ ((nd ns j).f0 ≠ 2 ∨ gUp (upA x4) 11 j = true))) := by
  unfold condI
  by_cases c : (nd ns j).f0 = 0
  · simp [c]
  · rw [if_neg c]
    simp only [c, false_or, bnot, Bool.and_eq_true, Bool.or_eq_true, decide_eq_true_eq]
theorem condS_iff {ns : List S34} {x3 : List Int} {x6 : List Bool} {j : Nat} : condS ns x3 x6 j = true ↔ (((nd ns j).f0 = 0 ∧ ¬ rd3 x3 (j : Int) > 0) ∨ ((nd ns j).f0 ≠ 0 ∧ ((nd ns j).f4 = rd3 x3 (j : Int) ∧ ¬ ((nd ns j).f0 = 1 ∧ (nd ns j).f4 = 0 ∧ (nd ns j).f5 = 0) ∧ ((nd ns j).f0 ≠ 2 ∨ rd4 x6 (j : Int) = true)))) := by
  unfold condS
  by_cases c : (nd ns j).f0 = 0
  · simp [c]
  · rw [if_neg c]
    simp only [c, ne_eq, not_false_eq_true, true_and, false_and, false_or, bnot, Bool.and_eq_true, Bool.or_eq_true, decide_eq_true_eq]
theorem entIF_iff {ns : List S34} {es : List S47} : entIF ns es 0 es.length = true ↔ ∀ q, q < es.length → entI ns es q = true := by
  rw [allF (f := entI ns es) (F := entIF ns es) (fun _ => rfl) (fun _ _ => rfl)]
  exact ⟨fun h q hq => h q (by omega) (by omega), fun h q _ hq => h q (by omega)⟩
theorem entSF_iff {es : List S47} : entSF es 0 es.length = true ↔ ∀ q, q < es.length → entS es q = true := by
  rw [allF (f := entS es) (F := entSF es) (fun _ => rfl) (fun _ _ => rfl)]
  exact ⟨fun h q hq => h q (by omega) (by omega), fun h q _ hq => h q (by omega)⟩
theorem okI_iff {ns : List S34} {i : Nat} : okI ns i = true ↔ (((nd ns i).f0 = 0 ∧ plainB (nd ns i) = true) ∨ ((nd ns i).f0 ≠ 0 ∧ nodeA (nd ns i) = true ∧ nodeB (nd ns i) = true ∧ ∀ q, q < (nd ns i).f8.length → entI ns (nd ns i).f8 q = true)) := by
  unfold okI
  by_cases c : (nd ns i).f0 = 0
  · simp [c]
  · rw [if_neg c]
    simp only [c, ne_eq, not_false_eq_true, true_and, false_and, false_or, Bool.and_eq_true, entIF_iff]
theorem nodeS_iff {z : S34} : nodeS z = true ↔ ((z.f0 = 0 ∧ plainB z = true) ∨ (z.f0 ≠ 0 ∧ nodeA z = true ∧ nodeL z = true ∧ nodeB z = true ∧ ∀ q, q < z.f8.length → entS z.f8 q = true)) := by
  unfold nodeS
  by_cases c : z.f0 = 0
  · simp [c]
  · rw [if_neg c]
    simp only [c, ne_eq, not_false_eq_true, true_and, false_and, false_or, Bool.and_eq_true, entSF_iff]
theorem node_two {z : S34} (hA : nodeA z = true) (hB : nodeB z = true) : z.f8.length ≤ 6 ∧ (z.f8 ≠ [] → z.f0 = 2) := by
  unfold nodeA at hA
  unfold nodeB at hB
  simp only [Bool.and_eq_true, decide_eq_true_eq] at hA
  by_cases c : z.f0 = 1
  · rw [if_pos c] at hB
    simp only [Bool.and_eq_true, decide_eq_true_eq] at hB
    exact ⟨by omega, fun h => absurd (List.eq_nil_of_length_eq_zero hB.2) h⟩
  · rw [if_neg c] at hB
    simp only [Bool.and_eq_true, decide_eq_true_eq] at hB
    exact ⟨hB.2.2, fun _ => by omega⟩
/-- what both ask of every node, as far as the names go -/
structure Names (ns : List S34) : Prop where
  rng : ∀ i, i < 10 → ∀ e ∈ (nd ns i).f8, 0 ≤ e.f1 ∧ e.f1 ≤ 9
  six : ∀ i, i < 10 → (nd ns i).f8.length ≤ 6
  two : ∀ i, i < 10 → (nd ns i).f8 ≠ [] → (nd ns i).f0 = 2
theorem names_I {ns : List S34} (h : ∀ i, i < 10 → okI ns i = true) : Names ns where
  rng := by
    intro i hi e he
    rcases okI_iff.1 (h i hi) with ⟨_, b⟩ | ⟨_, _, _, b⟩
    · rw [plain_len b] at he; cases he
    · obtain ⟨j, hj, rfl⟩ := mem_rd he
      have := b j hj
      unfold entI at this
      simp only [Bool.and_eq_true, decide_eq_true_eq] at this
      exact this.2.1
  six := by
    intro i hi
    rcases okI_iff.1 (h i hi) with ⟨_, b⟩ | ⟨_, a, b, _⟩
    · rw [plain_len b]; exact Nat.zero_le _
    · exact (node_two a b).1
  two := by
    intro i hi hn
    rcases okI_iff.1 (h i hi) with ⟨_, b⟩ | ⟨_, a, b, _⟩
    · exact absurd (plain_len b) hn
    · exact (node_two a b).2 hn
theorem names_S {ns : List S34} (h : ∀ i, i < 10 → nodeS (nd ns i) = true) : Names ns where
  rng := by
    intro i hi e he
    have := nodeS_ents (h i hi) e he
    omega
  six := by
    intro i hi
    rcases nodeS_iff.1 (h i hi) with ⟨_, b⟩ | ⟨_, a, _, b, _⟩
    · rw [plain_len b]; exact Nat.zero_le _
    · exact (node_two a b).1
  two := by
    intro i hi hn
    rcases nodeS_iff.1 (h i hi) with ⟨_, b⟩ | ⟨_, a, _, b, _⟩
    · exact absurd (plain_len b) hn
    · exact (node_two a b).2 hn
theorem kE_out {ns : List S34} (hns : ns.length = 10) {i : Nat} (h : 10 ≤ i) : kE ns i = [] := by
  unfold kE nd rd34
  rw [List.getD_eq_getElem?_getD, List.getElem?_eq_none (by omega)]; rfl
theorem kE_in {ns : List S34} (hns : ns.length = 10) {i j : Nat} (h : j ∈ kE ns i) : i < 10 := by
  by_cases c : i < 10
  · exact c
  · rw [kE_out hns (by omega)] at h; cases h
theorem kE_lt {ns : List S34} (hns : ns.length = 10) (hN : Names ns) {i j : Nat} (h : j ∈ kE ns i) : j < 10 := by
  have hi := kE_in hns h
  unfold kE at h
  obtain ⟨e, h1, h2⟩ := List.mem_map.1 h
  have := hN.rng i hi e h1
  omega
theorem kE_two {ns : List S34} (hns : ns.length = 10) (hN : Names ns) {i j : Nat} (h : j ∈ kE ns i) : kF ns i = true := by
  have hi := kE_in hns h
  unfold kF
  rw [decide_eq_true_eq]
  refine hN.two i hi ?_
  intro e
  unfold kE at h
  rw [e] at h; cases h
theorem kE_mem {ns : List S34} {i q : Nat} (h : q < (nd ns i).f8.length) : (rd47 (nd ns i).f8 (q : Int)).f1.toNat ∈ kE ns i := by
  unfold kE
  have e := drop_rd h
  exact List.mem_map.2 ⟨_, List.mem_of_mem_drop (by rw [e]; exact List.mem_cons_self), rfl⟩
theorem kCnt_le {ns : List S34} (hN : Names ns) : ∀ (d i q : Nat), i + d ≤ 10 → ((List.range' i d).flatMap (kE ns)).count q ≤ 6 * d := by
  intro d
  induction d with
  | zero => intro i q _; simp
  | succ d ih =>
    intro i q h
    rw [List.range'_succ, List.flatMap_cons, List.count_append]
    have h1 := ih (i + 1) q (by omega)
    have h2 : (kE ns i).count q ≤ 6 := by
      refine Nat.le_trans List.count_le_length ?_
      unfold kE
      rw [List.length_map]; exact hN.six i (by omega)
    omega
/-! ### FsOk: both ends meet -/
theorem rd_nd {ns : List S34} {a : Int} (h : 0 ≤ a) : rd34 ns a = nd ns a.toNat := by unfold nd; congr 1; omega
section Ends
variable {ns : List S34} {X A : List Int} (hns : ns.length = 10)
  (hX : ∀ q : Nat, q < 10 → rd3 X (q : Int) = ((gCnt (kE ns) 10 q : Nat) : Int))
  (hA : ∀ q : Nat, q < 10 → 0 ≤ rd3 A (q : Int) ∧ rd3 A (q : Int) < 10)
  (hA2 : ∀ q i' : Nat, q < 10 → i' < 10 → q ∈ kE ns i' → q ∈ kE ns (upA A q))
include hns hX hA hA2
omit hX in
theorem ends_A (hN : Names ns) : ∀ j, 0 < gCnt (kE ns) 10 j → upA A j < 10 ∧ j ∈ kE ns (upA A j) := by
  intro j hj
  obtain ⟨i, h1, h2⟩ := (gCnt_pos (kE ns) 10).1 hj
  have hj10 := kE_lt hns hN h2
  exact ⟨by have := hA j hj10; unfold upA; omega, hA2 j i hj10 h1 h2⟩
theorem ends_I (hok : ∀ i, i < 10 → okI ns i = true) (hK : (nd ns 0).f0 = 2) (hc : ∀ j, j < 10 → condI ns X A j = true) :
    (∀ i, i < 10 → nodeS (nd ns i) = true) ∧ (∀ i rest M, GInv (kE ns) (kF ns) 10 (i :: rest) M → i ∉ M) ∧ (∀ M, GInv (kE ns) (kF ns) 10 [] M → ∀ j, j < 10 → condS ns X (mrk M) j = true) := by
  have hN := names_I hok
  have z0 : gCnt (kE ns) 10 0 = 0 := by
    rcases condI_iff.1 (hc 0 (by omega)) with h | ⟨h1, _, _, h2, _⟩
    · omega
    · have e := hX 0 (by omega)
      have : (nd ns 0).f4 = 0 := by
        by_cases c : (nd ns 0).f4 = 0
        · exact c
        · exact absurd ⟨rfl, c⟩ h2
      rw [← h1, this] at e
      omega
  have one : ∀ j, j < 10 → kF ns j = true → 0 < j → gCnt (kE ns) 10 j = 1 := by
    intro j hj hF h0
    unfold kF at hF
    rw [decide_eq_true_eq] at hF
    rcases condI_iff.1 (hc j hj) with h | ⟨h1, _, h3, _, _⟩
    · omega
    · have e := hX j hj
      have : (nd ns j).f4 = 1 := by
        by_cases c : (nd ns j).f4 = 1
        · exact c
        · exact absurd ⟨hF, h0, c⟩ h3
      rw [← h1, this] at e
      omega
  refine ⟨?_, ?_, ?_⟩
  · intro i hi
    rw [nodeS_iff]
    rcases okI_iff.1 (hok i hi) with h | ⟨h0, h1, h2, h3⟩
    · exact Or.inl h
    · refine Or.inr ⟨h0, h1, ?_, h2, ?_⟩
      · rcases condI_iff.1 (hc i hi) with h | ⟨h4, _⟩
        · exact absurd h h0
        · have e := hX i hi
          have b : gCnt (kE ns) 10 i ≤ 6 * 10 := by unfold gCnt; rw [List.range_eq_range']; exact kCnt_le hN 10 0 i (by omega)
          unfold nodeL
          rw [decide_eq_true_eq]
          omega
      · intro q hq
        have e := h3 q hq
        unfold entI at e
        unfold entS
        simp only [Bool.and_eq_true, decide_eq_true_eq] at e ⊢
        refine ⟨e.1, ?_, e.2.1.2⟩
        have m := kE_mem hq
        by_cases c : (rd47 (nd ns i).f8 (q : Int)).f1 = 0
        · rw [c] at m
          have : 0 < gCnt (kE ns) 10 0 := (gCnt_pos (kE ns) 10).2 ⟨i, hi, m⟩
          omega
        · have := e.2.1.1
          omega
  · intro i rest M h
    exact gOnce (kE ns) (kF ns) 10 h z0 one
  · intro M h j hj
    rw [condS_iff]
    by_cases h0 : (nd ns j).f0 = 0
    · refine Or.inl ⟨h0, ?_⟩
      rw [hX j hj]
      intro hp
      obtain ⟨i, hi, hm⟩ := (gCnt_pos (kE ns) 10).1 (show 0 < gCnt (kE ns) 10 j by omega)
      unfold kE at hm
      obtain ⟨e, g1, g2⟩ := List.mem_map.1 hm
      obtain ⟨q, hq, rfl⟩ := mem_rd g1
      rcases okI_iff.1 (hok i hi) with ⟨_, b⟩ | ⟨_, _, _, b⟩
      · rw [plain_len b] at hq; cases hq
      · have e := b q hq
        unfold entI at e
        simp only [Bool.and_eq_true, decide_eq_true_eq] at e
        refine e.2.2 ?_
        rw [rd_nd e.2.1.1, g2, h0]
    · rcases condI_iff.1 (hc j hj) with h1 | ⟨h1, h2, h3, h4, h5⟩
      · exact absurd h1 h0
      · refine Or.inr ⟨h0, h1, h2, ?_⟩
        by_cases c2 : (nd ns j).f0 = 2
        · refine Or.inr ?_
          rw [mrk_rd hj, decide_eq_true_eq]
          rcases h5 with h5 | h5
          · exact absurd c2 h5
          · have hF : kF ns j = true := by unfold kF; exact decide_eq_true c2
            obtain ⟨k, hk⟩ := gUp_no (kE ns) (kF ns) 10 (ends_A hns hA hA2 hN) (fun i j h => kE_two hns hN h) (fun j a b c => one j c a b) 11 j hF hj h5
            exact gMet (kE ns) (kF ns) 10 h (fun i j h => kE_two hns hN h) hk hF
        · exact Or.inl c2
theorem ends_S (hok : ∀ i, i < 10 → nodeS (nd ns i) = true) {M : List Nat} (h : GInv (kE ns) (kF ns) 10 [] M) (hc : ∀ j, j < 10 → condS ns X (mrk M) j = true) :
    (∀ i, i < 10 → okI ns i = true) ∧ (∀ j, j < 10 → condI ns X A j = true) := by
  have hN := names_S hok
  have all : ∀ j, j < 10 → kF ns j = true → j ∈ M := by
    intro j hj hF
    unfold kF at hF
    rw [decide_eq_true_eq] at hF
    rcases condS_iff.1 (hc j hj) with ⟨h0, _⟩ | ⟨_, _, _, h1⟩
    · omega
    · rcases h1 with h1 | h1
      · exact absurd hF h1
      · rw [mrk_rd hj, decide_eq_true_eq] at h1; exact h1
  have two : ∀ i j, j ∈ kE ns i → kF ns i = true := fun i j h => kE_two hns hN h
  have one : ∀ j, kF ns j = true → 0 < j → j < 10 → gCnt (kE ns) 10 j = 1 := fun j a b c => gOne (kE ns) (kF ns) 10 h two all a c b
  have z0 : gCnt (kE ns) 10 0 = 0 := by
    by_cases c : gCnt (kE ns) 10 0 = 0
    · exact c
    · obtain ⟨i, hi, hm⟩ := (gCnt_pos (kE ns) 10).1 (show 0 < gCnt (kE ns) 10 0 by omega)
      unfold kE at hm
      obtain ⟨e, g1, g2⟩ := List.mem_map.1 hm
      have := nodeS_ents (hok i hi) e g1
      omega
  refine ⟨?_, ?_⟩
  · intro i hi
    rw [okI_iff]
    rcases nodeS_iff.1 (hok i hi) with h | ⟨h0, h1, _, h2, h3⟩
    · exact Or.inl h
    · refine Or.inr ⟨h0, h1, h2, ?_⟩
      intro q hq
      have e := h3 q hq
      unfold entS at e
      unfold entI
      simp only [Bool.and_eq_true, decide_eq_true_eq] at e ⊢
      refine ⟨e.1, ⟨by omega, e.2.2⟩, ?_⟩
      have m := kE_mem hq
      have pos : 0 < gCnt (kE ns) 10 (rd47 (nd ns i).f8 (q : Int)).f1.toNat := (gCnt_pos (kE ns) 10).2 ⟨i, hi, m⟩
      rw [rd_nd (show 0 ≤ (rd47 (nd ns i).f8 (q : Int)).f1 by omega)]
      have l10 : (rd47 (nd ns i).f8 (q : Int)).f1.toNat < 10 := by omega
      rcases condS_iff.1 (hc _ l10) with ⟨_, h4⟩ | ⟨h4, _⟩
      · rw [hX _ l10] at h4; omega
      · exact h4
  · intro j hj
    rw [condI_iff]
    rcases condS_iff.1 (hc j hj) with ⟨h0, _⟩ | ⟨h0, h1, h2, h3⟩
    · exact Or.inl h0
    · refine Or.inr ⟨h1, h2, ?_, ?_, ?_⟩
      · rintro ⟨a, b, c⟩
        have e := one j (by unfold kF; exact decide_eq_true a) b hj
        have e2 := hX j hj
        omega
      · rintro ⟨a, b⟩
        have e2 := hX j hj
        rw [a, z0] at e2
        rw [a] at h1 b
        omega
      · by_cases c2 : (nd ns j).f0 = 2
        · refine Or.inr ?_
          have hF : kF ns j = true := by unfold kF; exact decide_eq_true c2
          obtain ⟨k, h4, h5⟩ := gUp_of (kE ns) (kF ns) 10 h (all j hj hF)
          exact gUp_yes (kE ns) (kF ns) 10 (ends_A hns hA hA2 hN) (fun i h => kE_out hns h) two one (fun i j h => kE_lt hns hN h) h5 11 hF (by omega)
        · exact Or.inl c2
end Ends
/-! ### FsOk: the whole -/
theorem z10 (q : Nat) (hq : q < 10) : rd3 (List.replicate 10 0) (q : Int) = 0 := by
  unfold rd3
  rw [show ((q : Int)).toNat = q by omega, List.getD_eq_getElem?_getD, List.getElem?_replicate, if_pos hq]; rfl
def fX (ns : List S34) : List Int := bumpF ns (List.replicate 10 0) 0 10
def fA (ns : List S34) : List Int := markF ns (List.replicate 10 0) 0 10
theorem fX_rd {ns : List S34} (hN : Names ns) : ∀ q : Nat, q < 10 → rd3 (fX ns) (q : Int) = ((gCnt (kE ns) 10 q : Nat) : Int) := by
  intro q hq
  unfold fX
  rw [bumpF_rd ns (fun i hi => by have := hN.six i hi; omega) hN.rng 10 0 (List.replicate 10 0) 0 rfl rfl (fun q hq => by rw [z10 q hq]; omega) (by omega) q hq, z10 q hq]
  unfold gCnt
  rw [List.range_eq_range']
  omega
theorem fA_rd {ns : List S34} (hN : Names ns) : (∀ q : Nat, q < 10 → 0 ≤ rd3 (fA ns) (q : Int) ∧ rd3 (fA ns) (q : Int) < 10) ∧ (∀ q i' : Nat, q < 10 → i' < 10 → q ∈ kE ns i' → q ∈ kE ns (upA (fA ns) q)) :=
  markF_rd ns hN.rng 10 0 (List.replicate 10 0) rfl rfl (fun q hq => by rw [z10 q hq]; omega) (fun q i' _ h => absurd h (Nat.not_lt_zero _))
theorem spec_sum (ns : List S34) (hns : ns.length = 10) (hf : ∀ i, i < 10 → FitN (nd ns i)) {k : Nat} (hk : 80000000 ≤ k) :
    ∃ b, f16 k ⟨ns⟩ = some b ∧ (b = true → (∀ i, i < 10 → nodeS (nd ns i) = true) ∧ (nd ns 0).f0 = 2 ∧ ∃ M, GInv (kE ns) (kF ns) 10 [] M ∧ ∀ j, j < 10 → condS ns (fX ns) (mrk M) j = true) ∧
      ((∀ i, i < 10 → nodeS (nd ns i) = true) → (nd ns 0).f0 = 2 → (∀ i rest M, GInv (kE ns) (kF ns) 10 (i :: rest) M → i ∉ M) → (∀ M, GInv (kE ns) (kF ns) 10 [] M → ∀ j, j < 10 → condS ns (fX ns) (mrk M) j = true) → b = true) := by
  have hl : ∀ i, i < 10 → (nd ns i).f8.length ≤ 1048576 := fun i hi => (hf i hi).l
  have hg : ∀ z, FitN z → f40 k z = some (nodeS z) := fun z hz => inode_spec z hz.n hz.l (by omega)
  have hfold : (∀ i, i < 10 → ∀ e ∈ (nd ns i).f8, 0 ≤ e.f1 ∧ e.f1 ≤ 9) → (nd ns 0).f0 = 2 → ∃ x4 b, f41 k ⟨ns⟩ = some (x4, b) ∧ (b = true → ∃ M', GInv (kE ns) (kF ns) 10 [] M' ∧ x4 = mrk M') ∧ (b = false → ∃ i rest M', GInv (kE ns) (kF ns) 10 (i :: rest) M' ∧ i ∈ M') := by
    intro he c2
    obtain ⟨x4, b, h1, h2, h3⟩ := spec_folders ns hns hl he 10 k [0] [] rfl (by simp) (by omega) (gInv_start (kE ns) (kF ns) 10 (by unfold kF; exact decide_eq_true c2) (by omega))
    refine ⟨x4, b, ?_, h2, h3⟩
    have e1 : (1 * ((ns.length : Nat) : Int)) ≤ 140737488355328 := by omega
    have e2 : ((ns.length : Nat) : Int) ≤ 140737488355328 := by omega
    show cond (decide _) (cond (decide _) (run step41 k (J41.j3 ns (List.replicate ((ns.length : Int)).toNat false) [0])) _) _ = _
    rw [decide_eq_true e1, decide_eq_true e2, show ((ns.length : Int)).toNat = 10 by omega]
    exact h1
  show ∃ b, cond (_ != _) _ (run (step16 (f40 k) (f41 k)) k (J16.j5 0 ns (List.replicate 10 0))) = some b ∧ _
  generalize f40 k = g40 at hg ⊢
  generalize f41 k = g41 at hfold ⊢
  obtain ⟨m', g1, g2⟩ := spec_nodes g41 hg ns hns hf 10 0 k (List.replicate 10 0) rfl (by omega) rfl
  obtain ⟨m, rfl⟩ : ∃ m, m' = m + 1 := ⟨m' - 1, by omega⟩
  have e : run (step16 g40 g41) k (J16.j5 0 ns (List.replicate 10 0)) = if nodeSF ns 0 10 = true then run (step16 g40 g41) (m + 1) (J16.j5 10 ns (fX ns)) else some false := g2
  have hall : nodeSF ns 0 10 = true ↔ ∀ i, i < 10 → nodeS (nd ns i) = true := by
    rw [allF (f := fun i => nodeS (nd ns i)) (F := nodeSF ns) (fun _ => rfl) (fun _ _ => rfl)]
    exact ⟨fun h q hq => h q (by omega) (by omega), fun h q _ hq => h q (by omega)⟩
  rw [e, bne_int, decide_eq_true (show ((ns.length : Nat) : Int) = 10 by omega), Bool.not_true, cond_false]
  have a1 : (0 : Int) < (ns.length : Int) := by omega
  have a2 : ¬ (10 : Int) < 10 := by omega
  by_cases c : nodeSF ns 0 10 = true
  · have hok := hall.1 c
    rw [if_pos c, run_succ]
    simp only [step16, a1, a2, decide_true, decide_false, cond_true, cond_false, bne_int, show rd34 ns 0 = nd ns 0 from rfl]
    by_cases c2 : (nd ns 0).f0 = 2
    · have hN := names_S hok
      obtain ⟨x4, b, h1, h2, h3⟩ := hfold hN.rng c2
      simp only [c2, decide_true, Bool.not_true, cond_false, h1, Option.bind_some]
      cases b with
      | false =>
        refine ⟨false, ?_, fun h => (by cases h), ?_⟩
        · obtain ⟨m, rfl⟩ : ∃ q, m = q + 1 := ⟨m - 1, by omega⟩
          rw [run_succ]
          have : (0 : Int) < 10 := by omega
          simp only [step16, this, decide_true, cond_true, cond_false]
        · intro _ _ h _
          obtain ⟨i, rest, M, g, g'⟩ := h3 rfl
          exact absurd g' (h i rest M g)
      | true =>
        obtain ⟨M, g, rfl⟩ := h2 rfl
        have w := spec_ways g40 g41 ns (fX ns) (mrk M) hns (by unfold fX; rw [bumpF_len]; rfl) (by simp [mrk]) 10 0 m rfl (by omega)
        have hc : condSF ns (fX ns) (mrk M) 0 10 = true ↔ ∀ i, i < 10 → condS ns (fX ns) (mrk M) i = true := by
          rw [allF (f := condS ns (fX ns) (mrk M)) (F := condSF ns (fX ns) (mrk M)) (fun _ => rfl) (fun _ _ => rfl)]
          exact ⟨fun h q hq => h q (by omega) (by omega), fun h q _ hq => h q (by omega)⟩
        exact ⟨condSF ns (fX ns) (mrk M) 0 10, w, fun h => ⟨hok, trivial, M, g, hc.1 h⟩, fun _ _ _ h => hc.2 (h M g)⟩
    · simp only [c2, decide_false, Bool.not_false, cond_true]
      exact ⟨false, rfl, fun h => (by cases h), fun _ h => absurd h id⟩
  · rw [if_neg c]
    exact ⟨false, rfl, fun h => (by cases h), fun h => absurd (hall.2 h) c⟩
theorem f14_run (k : Nat) (ns : List S34) : f14 k ⟨ns⟩ = start14 gIn gP14 gN14 (run T14 k) ⟨ns⟩ := by
  have e1 : f37 k = gP14 := funext fun z => f37_eq k z
  have e2 : f38 k = gN14 := funext fun s => f38_eq k s
  show start14 (f33 k) (f37 k) (f38 k) (run (step14 (f33 k) (f37 k) (f38 k)) k) ⟨ns⟩ = _
  rw [f33_eq, e1, e2]; rfl
theorem fs_all (ns : List S34) (hf : ∀ i, i < 10 → FitN (nd ns i)) {k : Nat} (hk : 80000000 ≤ k) : ∃ b, f14 k ⟨ns⟩ = some b ∧ f16 k ⟨ns⟩ = some b := by
  by_cases hns : ns.length = 10
  · have hl : ∀ i, i < 10 → (nd ns i).f8.length ≤ 1048576 := fun i hi => (hf i hi).l
    obtain ⟨b, s1, s2, s3⟩ := spec_sum ns hns hf hk
    obtain ⟨k, rfl⟩ : ∃ m, k = m + 1 := ⟨k - 1, by omega⟩
    refine ⟨b, ?_, s1⟩
    clear s1
    obtain ⟨m', g1, g2⟩ := impl_nodes ns hns hl 10 0 k (List.replicate 10 0) (List.replicate 10 0) rfl (by omega) rfl rfl
    have hI : f14 (k + 1) ⟨ns⟩ = if ((nd ns 0).f0 = 2) ∧ okIF ns 0 10 = true then run T14 m' (J14.j25 ns 10 0 (fX ns) (fA ns)) else some false := by
      rw [f14_run]
      have e0 : rd34 ns 0 = nd ns 0 := rfl
      have e10 : (ns.length : Int) = 10 := by omega
      have a1 : (0 : Int) < 10 := by omega
      have z0 : run T14 (k + 1) (J14.j3 ns) = run T14 k (J14.j6 ns 10 0 ns (List.replicate 10 0) (List.replicate 10 0)) := by
        rw [run_succ, t14]
        simp only [step14, e10]
      show cond (_ != _) _ (cond (decide _) (cond (_ != _) _ (run T14 (k + 1) (J14.j3 ns))) _) = _
      rw [e10, e0, z0]
      simp only [bne_int, a1, decide_true, Bool.not_true, cond_false, cond_true]
      by_cases c : (nd ns 0).f0 = 2
      · rw [decide_eq_true c, Bool.not_true, cond_false]
        refine g2.trans ?_
        simp [c, fX, fA]
      · rw [decide_eq_false c, Bool.not_false, cond_true, if_neg (fun h => c h.1)]
    have hall : okIF ns 0 10 = true ↔ ∀ i, i < 10 → okI ns i = true := by
      rw [allF (f := okI ns) (F := okIF ns) (fun _ => rfl) (fun _ _ => rfl)]
      exact ⟨fun h q hq => h q (by omega) (by omega), fun h q _ hq => h q (by omega)⟩
    rw [hI]
    by_cases c : ((nd ns 0).f0 = 2) ∧ okIF ns 0 10 = true
    · have hok := hall.1 c.2
      have hN := names_I hok
      have w := impl_ways ns (fX ns) (fA ns) hns (by unfold fX; rw [bumpF_len]; rfl) (by unfold fA; rw [markF_len]; rfl) (fA_rd hN).1 10 0 m' rfl (by omega)
      have hc : condIF ns (fX ns) (fA ns) 0 10 = true ↔ ∀ i, i < 10 → condI ns (fX ns) (fA ns) i = true := by
        rw [allF (f := condI ns (fX ns) (fA ns)) (F := condIF ns (fX ns) (fA ns)) (fun _ => rfl) (fun _ _ => rfl)]
        exact ⟨fun h q hq => h q (by omega) (by omega), fun h q _ hq => h q (by omega)⟩
      rw [if_pos c]
      refine Eq.trans w (congrArg some ?_)
      rw [Bool.eq_iff_iff, hc]
      constructor
      · intro h
        obtain ⟨h1, h2, h3⟩ := ends_I hns (fX_rd hN) (fA_rd hN).1 (fA_rd hN).2 hok c.1 h
        exact s3 h1 c.1 h2 h3
      · intro h
        obtain ⟨h1, _, M, h2, h3⟩ := s2 h
        exact (ends_S hns (fX_rd hN) (fA_rd hN).1 (fA_rd hN).2 h1 h2 h3).2
    · rw [if_neg c]
      refine congrArg some ?_
      cases b with
      | false => rfl
      | true =>
        obtain ⟨h1, h4, M, h2, h3⟩ := s2 rfl
        have hN := names_S h1
        exact absurd ⟨h4, hall.2 (ends_S hns (fX_rd hN) (fA_rd hN).1 (fA_rd hN).2 h1 h2 h3).1⟩ c
  · refine ⟨false, ?_, ?_⟩
    · rw [f14_run]
      show cond (_ != _) _ _ = _
      rw [bne_int, decide_eq_false (show ¬ ((ns.length : Nat) : Int) = 10 by omega)]; rfl
    · show cond (_ != _) _ _ = _
      rw [bne_int, decide_eq_false (show ¬ ((ns.length : Nat) : Int) = 10 by omega)]; rfl
end Go.Sx
