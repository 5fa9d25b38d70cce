/- The plain law FnFsLook, over what its functions compute: a part. No further condition. -/
import Derived.Test.YtpljcphiaajjaaaSzPFnFsLooka
set_option linter.unusedVariables false
set_option linter.unusedSimpArgs false
namespace Go.Sx
open Go.RowKit Go.Lib
set_option linter.unusedVariables false
set_option linter.unusedSimpArgs false
/-! ### the loops over nodes and entries: links are counted, and the last folder that has a name is kept -/
def nd (ns : List S34) (i : Nat) : S34 := rd34 ns (i : Int)
def bumpE (xs : List Int) : List S47 → List Int
  | [] => xs
  | e :: es => bumpE (xs.set e.f1.toNat (w64 (rd3 xs e.f1 + 1))) es
def markE (xs : List Int) (v : Int) : List S47 → List Int
  | [] => xs
  | e :: es => markE (xs.set e.f1.toNat v) v es
theorem bumpE_len (es : List S47) : ∀ xs : List Int, (bumpE xs es).length = xs.length := by
  induction es with
  | nil => intro xs; rfl
  | cons e es ih => intro xs; unfold bumpE; rw [ih, List.length_set]
theorem markE_len (v : Int) (es : List S47) : ∀ xs : List Int, (markE xs v es).length = xs.length := by
  induction es with
  | nil => intro xs; rfl
  | cons e es ih => intro xs; unfold markE; rw [ih, List.length_set]
theorem drop_rd {es : List S47} {j : Nat} (h : j < es.length) : es.drop j = rd47 es (j : Int) :: es.drop (j + 1) := by
  rw [List.drop_eq_getElem_cons h]
  congr 1
  unfold rd47
  rw [List.getD_eq_getElem?_getD, show ((j : Int)).toNat = j by omega, List.getElem?_eq_getElem h]; rfl
def entI (ns : List S34) (es : List S47) (j : Nat) : Bool := entC es j && (decide (0 ≤ (rd47 es (j : Int)).f1 ∧ (rd47 es (j : Int)).f1 ≤ 9) && decide ((rd34 ns (rd47 es (j : Int)).f1).f0 ≠ 0))
def entIF (ns : List S34) (es : List S47) (j : Nat) : Nat → Bool
  | 0 => true
  | d + 1 => entI ns es j && entIF ns es (j + 1) d
def gN14 : ByteArray → Option Bool := fun s => some (nmFine s)
noncomputable def gP14 : S34 → Option Bool := fun z => some (plainB z)
noncomputable def T14 (go : J14 → Option Bool) (p : J14) : Option Bool := step14 gIn gP14 gN14 go p
theorem t14 (go : J14 → Option Bool) (p : J14) : T14 go p = step14 gIn gP14 gN14 go p := rfl
theorem impl_ents (ns : List S34) (hns : ns.length = 10) (i : Nat) (z : S34) (hl : z.f8.length ≤ 1048576) (m : Nat) (d : Nat) : ∀ (j : Nat) (x3 x4 : List Int), j + d = z.f8.length → x3.length = 10 → x4.length = 10 →
    run T14 (m + 2 * d + 1) (J14.j16 (i : Int) ns 10 (i : Int) z.f8 (z.f8.length : Int) (j : Int) ns x3 x4 z.f0 z.f1 z.f2 z.f3 z.f4 z.f5 z.f6 z.f7 z.f8) = if entIF ns z.f8 j d = true then run T14 m (J14.j23 ns 10 (i : Int) ns (bumpE x3 (z.f8.drop j)) (markE x4 (i : Int) (z.f8.drop j))) else some false := by
  induction d with
  | zero =>
    intro j x3 x4 hj h3 h4
    have a0 : ¬ (j : Int) < (z.f8.length : Int) := by omega
    rw [run_succ, t14]
    simp only [step14, a0, decide_false, cond_false]
    rw [List.drop_eq_nil_of_le (by omega)]
    rfl
  | succ d ih =>
    intro j x3 x4 hj h3 h4
    have hjl : j < z.f8.length := by omega
    have w : w64 ((j : Int) + 1) = ((j + 1 : Nat) : Int) := wsucc hjl (by omega)
    have w' : w64 ((j : Int) - 1) = (j : Int) - 1 := w64_id (by clear w; omega) (by clear w; omega)
    have a0 : (j : Int) < (z.f8.length : Int) := by clear w w'; omega
    have a1 : (0 : Int) ≤ (j : Int) := by clear w w'; omega
    rw [drop_rd hjl]
    have e := ih (j + 1) (x3.set (rd47 z.f8 (j : Int)).f1.toNat (w64 (rd3 x3 (rd47 z.f8 (j : Int)).f1 + 1))) (x4.set (rd47 z.f8 (j : Int)).f1.toNat (i : Int)) (by clear w w'; omega) (by rw [List.length_set]; exact h3) (by rw [List.length_set]; exact h4)
    rw [show m + 2 * (d + 1) + 1 = m + 2 * d + 1 + 1 + 1 by clear w w'; omega, run_succ, t14]
    simp only [step14, a0, a1, decide_true, cond_true, in_eq, gN14, Option.bind_some, beq_int, w']
    show _ = if (entI ns z.f8 j && entIF ns z.f8 (j + 1) d) = true then _ else _
    unfold bumpE markE entI entC
    generalize hE : rd47 z.f8 (j : Int) = E at e ⊢
    have jj : 0 ≤ E.f1 → E.f1 ≤ 9 → run T14 (m + 2 * d + 1 + 1) (J14.j20 (i : Int) ns 10 (i : Int) z.f8 (z.f8.length : Int) (j : Int) ns x3 x4 z.f0 z.f1 z.f2 z.f3 z.f4 z.f5 z.f6 z.f7 z.f8 E.f0 E.f1) = if entIF ns z.f8 (j + 1) d = true then run T14 m (J14.j23 ns 10 (i : Int) ns (bumpE (x3.set E.f1.toNat (w64 (rd3 x3 E.f1 + 1))) (z.f8.drop (j + 1))) (markE (x4.set E.f1.toNat (i : Int)) (i : Int) (z.f8.drop (j + 1)))) else some false := by
      intro g0 g1
      have p3 : E.f1 < (x3.length : Int) := by clear w w'; omega
      have p4 : E.f1 < (x4.length : Int) := by clear w w'; omega
      rw [run_succ, t14]
      simp only [step14, g0, p3, p4, decide_true, cond_true, w]
      exact e
    clear e ih w w'
    generalize entIF ns z.f8 (j + 1) d = Z at jj ⊢
    cases nmFine E.f0 with
    | false => simp only [Bool.not_false, cond_true, Bool.false_and, if_neg (show ¬ (false = true) by decide)]
    | true =>
      by_cases c1 : 0 ≤ E.f1 ∧ E.f1 ≤ 9
      · obtain ⟨c10, c11⟩ := c1
        have p1 : E.f1 < (ns.length : Int) := by omega
        have jj := jj c10 c11
        simp only [c10, c11, p1, and_self, decide_true, Bool.not_true, cond_false, cond_true, Bool.true_and, Bool.and_true]
        by_cases c2 : (rd34 ns E.f1).f0 = 0
        · simp [c2]
        · by_cases c3 : j = 0
          · have q : ¬ (j : Int) > 0 := by omega
            simp only [c2, c3, decide_true, decide_false, cond_false, Bool.true_or, Bool.true_and, ne_eq, not_false_eq_true]
            rw [← c3]
            simp only [q, decide_false, cond_false, jj]
          · have q : (j : Int) > 0 := by omega
            have q1 : (0 : Int) ≤ (j : Int) - 1 := by omega
            have q2 : (j : Int) - 1 < (z.f8.length : Int) := by omega
            simp only [c2, c3, q, q1, q2, decide_true, decide_false, cond_true, cond_false, Bool.false_or, ne_eq, not_false_eq_true, Bool.and_true, jj]
            cases Go.Op.bytesLess (rd47 z.f8 ((j : Int) - 1)).f0.toList E.f0.toList <;> simp
      · simp only [c1, decide_false, Bool.not_true, Bool.not_false, cond_false, cond_true, Bool.false_and, Bool.and_false, Bool.true_and]
        rfl
noncomputable def okI (ns : List S34) (i : Nat) : Bool := if (nd ns i).f0 = 0 then plainB (nd ns i) else nodeA (nd ns i) && (nodeB (nd ns i) && entIF ns (nd ns i).f8 0 (nd ns i).f8.length)
theorem impl_node (ns : List S34) (hns : ns.length = 10) (i : Nat) (hi : i < 10) (hl : (nd ns i).f8.length ≤ 1048576) (m : Nat) (x3 x4 : List Int) (h3 : x3.length = 10) (h4 : x4.length = 10) :
    ∃ m', m ≤ m' ∧ run T14 (m + 2 * (nd ns i).f8.length + 5) (J14.j6 ns 10 (i : Int) ns x3 x4) = if okI ns i = true then run T14 m' (J14.j6 ns 10 ((i + 1 : Nat) : Int) ns (bumpE x3 (nd ns i).f8) (markE x4 (i : Int) (nd ns i).f8)) else some false := by
  have w : w64 ((i : Int) + 1) = ((i + 1 : Nat) : Int) := wsucc hi (by omega)
  have e := impl_ents ns hns i (nd ns i) hl (m + 1) (nd ns i).f8.length 0 x3 x4 (by omega) h3 h4
  have eq0 : rd34 ns (i : Int) = nd ns i := rfl
  have a0 : (i : Int) < 10 := by clear w; omega
  have a1 : (0 : Int) ≤ (i : Int) := by clear w; omega
  have a2 : (i : Int) < (ns.length : Int) := by clear w; omega
  have j23 : ∀ K X A, run T14 (K + 1) (J14.j23 ns 10 (i : Int) ns X A) = run T14 K (J14.j6 ns 10 ((i + 1 : Nat) : Int) ns X A) := by
    intro K X A
    rw [run_succ, t14]
    simp only [step14, w]
  rw [j23] at e
  unfold okI
  by_cases c : (nd ns i).f0 = 0
  · refine ⟨m + 2 * (nd ns i).f8.length + 3, by clear w; omega, ?_⟩
    rw [show m + 2 * (nd ns i).f8.length + 5 = m + 2 * (nd ns i).f8.length + 3 + 1 + 1 by clear w; omega, run_succ, t14]
    simp only [step14, a0, a1, a2, decide_true, cond_true, eq0, c, beq_int, gP14, Option.bind_some, j23]
    by_cases p : plainB (nd ns i) = true
    · simp only [p, plain_len p, Bool.not_true, cond_false, if_true]; rfl
    · simp [p]
  · refine ⟨m, Nat.le_refl _, ?_⟩
    rw [show m + 2 * (nd ns i).f8.length + 5 = m + 1 + 2 * (nd ns i).f8.length + 1 + 1 + 1 + 1 by clear w; omega, run_succ, t14]
    simp only [step14, a0, a1, a2, decide_true, cond_true, eq0, beq_int, in_eq, Option.bind_some]
    clear w
    generalize hz : nd ns i = z at *
    have j15 : run T14 (m + 1 + 2 * z.f8.length + 1 + 1) (J14.j15 (i : Int) ns 10 (i : Int) ns x3 x4 z.f0 z.f1 z.f2 z.f3 z.f4 z.f5 z.f6 z.f7 z.f8) = if entIF ns z.f8 0 z.f8.length = true then run T14 m (J14.j6 ns 10 ((i + 1 : Nat) : Int) ns (bumpE x3 z.f8) (markE x4 (i : Int) z.f8)) else some false := by
      rw [run_succ, t14]
      simp only [step14]
      exact e
    have j13 : 1 ≤ z.f0 ∧ z.f0 ≤ 2 → run T14 (m + 1 + 2 * z.f8.length + 1 + 1 + 1) (J14.j13 (i : Int) ns 10 (i : Int) ns x3 x4 z.f0 z.f1 z.f2 z.f3 z.f4 z.f5 z.f6 z.f7 z.f8) = if (nodeB z && entIF ns z.f8 0 z.f8.length) = true then run T14 m (J14.j6 ns 10 ((i + 1 : Nat) : Int) ns (bumpE x3 z.f8) (markE x4 (i : Int) z.f8)) else some false := by
      intro c0
      rw [run_succ, t14]
      simp only [step14, j15, beq_int, beq_bl, nil_toList]
      unfold nodeB
      by_cases d3 : z.f0 = 1
      · by_cases d4 : (z.f7.size : Int) > 40
        · have : ¬ z.f7.size ≤ 40 := by omega
          simp [d3, d4, this]
        · have : z.f7.size ≤ 40 := by omega
          by_cases d5 : z.f8.length = 0
          · simp [d3, d4, this, d5]
          · have d6 : 0 < z.f8.length := by omega
            simp [d3, d4, this, d5, d6]
      · have d2 : z.f0 = 2 := by omega
        by_cases d6 : z.f7.toList = ([] : List UInt8)
        · by_cases d8 : z.f8.length ≤ 6
          · have d9 : ¬ (z.f8.length : Int) > 6 := by omega
            cases z.f6 <;> simp [d2, d6, d8, d9]
          · have d9 : (z.f8.length : Int) > 6 := by omega
            cases z.f6 <;> simp [d2, d6, d8, d9]
        · simp [d2, d6]
    rw [decide_eq_false c, cond_false, if_neg c]
    unfold nodeA
    by_cases c0 : 1 ≤ z.f0 ∧ z.f0 ≤ 2
    · rw [j13 c0]
      by_cases c1 : 0 ≤ z.f1 ∧ z.f1 ≤ 511
      · by_cases c2 : 0 ≤ z.f2 ∧ z.f2 ≤ 9
        · by_cases c3 : 0 ≤ z.f3 ∧ z.f3 ≤ 9
          · by_cases c4 : 0 ≤ z.f5 ∧ z.f5 ≤ 99
            · simp [c0, c1, c2, c3, c4]
            · simp [c0, c1, c2, c3, c4]
          · simp [c0, c1, c2, c3]
        · simp [c0, c1, c2]
      · simp [c0, c1]
    · simp [c0]
noncomputable def okIF (ns : List S34) (i : Nat) : Nat → Bool
  | 0 => true
  | d + 1 => okI ns i && okIF ns (i + 1) d
def bumpF (ns : List S34) (xs : List Int) (i : Nat) : Nat → List Int
  | 0 => xs
  | d + 1 => bumpF ns (bumpE xs (nd ns i).f8) (i + 1) d
def markF (ns : List S34) (xs : List Int) (i : Nat) : Nat → List Int
  | 0 => xs
  | d + 1 => markF ns (markE xs (i : Int) (nd ns i).f8) (i + 1) d
theorem impl_nodes (ns : List S34) (hns : ns.length = 10) (hl : ∀ i, i < 10 → (nd ns i).f8.length ≤ 1048576) (d : Nat) : ∀ (i k : Nat) (x3 x4 : List Int), i + d = 10 → 3000000 * (d + 1) ≤ k → x3.length = 10 → x4.length = 10 →
    ∃ m', 2000000 ≤ m' ∧ run T14 k (J14.j6 ns 10 (i : Int) ns x3 x4) = if okIF ns i d = true then run T14 m' (J14.j25 ns 10 0 (bumpF ns x3 i d) (markF ns x4 i d)) else some false := by
  induction d with
  | zero =>
    intro i k x3 x4 hi hk h3 h4
    obtain ⟨k, rfl⟩ : ∃ m, k = m + 1 := ⟨k - 1, by omega⟩
    have a0 : ¬ (i : Int) < 10 := by omega
    refine ⟨k, by omega, ?_⟩
    rw [run_succ, t14]
    simp only [step14, a0, decide_false, cond_false, hns]
    rfl
  | succ d ih =>
    intro i k x3 x4 hi hk h3 h4
    have hli := hl i (by omega)
    obtain ⟨m, rfl⟩ : ∃ m, k = m + 2 * (nd ns i).f8.length + 5 := ⟨k - 2 * (nd ns i).f8.length - 5, by omega⟩
    obtain ⟨m', g1, g2⟩ := impl_node ns hns i (by omega) hli m x3 x4 h3 h4
    obtain ⟨m2, g3, g4⟩ := ih (i + 1) m' (bumpE x3 (nd ns i).f8) (markE x4 (i : Int) (nd ns i).f8) (by omega) (by omega) (by rw [bumpE_len]; exact h3) (by rw [markE_len]; exact h4)
    refine ⟨m2, g3, ?_⟩
    rw [g2, g4]
    show _ = if (okI ns i && okIF ns (i + 1) d) = true then _ else _
    cases okI ns i
    · rfl
    · rw [Bool.true_and]; rfl
end Go.Sx
