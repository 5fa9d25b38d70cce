/- The plain law FnFsLook, over what its functions compute: a part. No further condition. -/
import Derived.Test.YtpljcphiaajjaaaSzFFnFsLook
import Derived.Test.YtpljcphiaajjaaaSzV
set_option linter.unusedVariables false
set_option linter.unusedSimpArgs false
namespace Go.Sx
open Go.RowKit Go.Lib
set_option linter.unusedVariables false
set_option linter.unusedSimpArgs false

/-! ### small facts -/
theorem w64_id {n : Int} (h1 : -9223372036854775808 ≤ n) (h2 : n ≤ 9223372036854775807) : w64 n = n := w64_in ⟨h1, h2⟩
theorem wsucc {i n : Nat} (h : i < n) (hn : n ≤ 4611686018427387904) : w64 ((i : Int) + 1) = ((i + 1 : Nat) : Int) := by rw [w64_id (by omega) (by omega)]; omega
theorem beq_int (a b : Int) : (a == b) = decide (a = b) := rfl
theorem bne_int (a b : Int) : (a != b) = !decide (a = b) := rfl
theorem beq_bl (a b : List UInt8) : (a == b) = decide (a = b) := by rw [Bool.eq_iff_iff, beq_iff_eq, decide_eq_true_iff]
theorem nil_toList : (⟨#[]⟩ : ByteArray).toList = [] := by rw [ByteArray.toList_eq]
theorem toList_nil {a : ByteArray} : a.toList = ([] : List UInt8) ↔ a.size = 0 := by
  rw [ByteArray.toList_eq, List.eq_nil_iff_length_eq_zero, Array.length_toList]; rfl
def gIn : Int × Int × Int → Option Bool := fun p => some (decide (p.2.1 ≤ p.1 ∧ p.1 ≤ p.2.2))
theorem in_eq (a b c : Int) : gIn (a, b, c) = some (decide (b ≤ a ∧ a ≤ c)) := rfl
theorem f33_eq (k : Nat) : f33 k = gIn := by
  funext ⟨a, b, c⟩
  show cond _ _ _ = _
  unfold gIn
  by_cases h : a ≥ b <;> simp [h]
theorem f35_eq (k : Nat) : f35 k = gIn := f33_eq k
def gUser : Int → Option Bool := fun a => some (decide (0 ≤ a ∧ a ≤ 9))
theorem f34_eq (k : Nat) : f34 k = gUser := by
  funext a
  show Option.bind (f35 k (a, 0, 9)) _ = _
  rw [f35_eq]; rfl
def nmFine (s : ByteArray) : Bool := decide ((1 : Int) ≤ s.size ∧ (s.size : Int) ≤ 3) && nmAll s 0 s.size
theorem f38_eq (k : Nat) (s : ByteArray) : f38 k s = some (nmFine s) := rfl
theorem bt_get {s : ByteArray} {i : Nat} (h : i < s.size) : bt s (i : Int) = ((s.get! i).toNat : Int) := by
  unfold bt
  have h' : ((i : Int)).toNat < s.size := by omega
  rw [dif_pos h']
  have e : ((i : Int)).toNat = i := by omega
  congr 2
  simp only [e]
  obtain ⟨a⟩ := s
  have h2 : i < a.size := h
  show a[i] = a[i]!
  exact (getElem!_pos a i h2).symm
theorem nm_spec (s : ByteArray) (hs : s.size ≤ 1000000000) (d : Nat) : ∀ k i : Nat, i + d = s.size → 2 * d < k → run (step51 gIn) k (J51.j2 s (i : Int)) = some (decide ((1 : Int) ≤ s.size ∧ (s.size : Int) ≤ 3) && nmAll s i d) := by
  induction d with
  | zero =>
    intro k i hi hk
    obtain ⟨k, rfl⟩ : ∃ m, k = m + 1 := ⟨k - 1, by omega⟩
    have h0 : ¬ (i : Int) < (s.size : Int) := by omega
    rw [run_succ]
    simp only [step51, h0, decide_false, cond_false, in_eq, Option.bind_some]
    simp [nmAll]
  | succ d ih =>
    intro k i hi hk
    obtain ⟨k, rfl⟩ : ∃ m, k = m + 1 + 1 := ⟨k - 2, by omega⟩
    have h0 : (i : Int) < (s.size : Int) := by omega
    have h1 : (0 : Int) ≤ (i : Int) := by omega
    rw [run_succ]
    simp only [step51, h0, h1, decide_true, cond_true, bt_get (show i < s.size by omega), run_succ]
    rw [wsucc (show i < s.size by omega) (by omega), ih k (i + 1) (by omega) (by omega)]
    show _ = some (_ && (!nmOut (s.get! i).toNat && nmAll s (i + 1) d))
    generalize (s.get! i).toNat = b
    rw [show decide ((b : Int) < 97) = decide (b < 97) from decide_eq_decide.2 (by omega), show decide ((b : Int) > 122) = decide (122 < b) from decide_eq_decide.2 (by omega)]
    unfold nmOut
    cases decide (b < 97) <;> cases decide (122 < b) <;> simp
theorem name_spec (s : ByteArray) (hs : s.size ≤ 1000000000) {k : Nat} (hk : 2 * s.size < k) : f51 k s = some (nmFine s) := by
  show run (step51 (f35 k)) k (J51.j2 s 0) = _
  rw [f35_eq]
  exact nm_spec s hs s.size k 0 (by omega) hk
noncomputable def plainB (z : S34) : Bool := (start66 z).getD false
theorem f66_eq (k : Nat) (z : S34) : f66 k z = some (plainB z) := by
  show start66 z = _
  obtain ⟨b, hb⟩ : ∃ b, start66 z = some b := by
    simp only [start66]
    cases (z.f0 == 0) <;> cases (z.f1 == 0) <;> cases (z.f2 == 0) <;> cases (z.f3 == 0) <;> cases (z.f4 == 0) <;> cases (z.f5 == 0) <;> cases (!z.f6) <;> cases (z.f7.toList == (⟨#[]⟩ : ByteArray).toList) <;> exact ⟨_, rfl⟩
  unfold plainB
  rw [hb]; rfl
theorem f37_eq (k : Nat) (z : S34) : f37 k z = some (plainB z) := f66_eq k z
theorem plain_len {z : S34} (h : plainB z = true) : z.f8 = [] := by
  by_cases c : z.f8.length = 0
  · exact List.eq_nil_of_length_eq_zero c
  · exfalso
    have e : (((z.f8.length : Nat) : Int) == 0) = false := by
      rw [beq_eq_false_iff_ne]; omega
    simp [plainB, start66, e] at h
def nodeA (z : S34) : Bool := decide (1 ≤ z.f0 ∧ z.f0 ≤ 2) && (decide (0 ≤ z.f1 ∧ z.f1 ≤ 511) && (decide (0 ≤ z.f2 ∧ z.f2 ≤ 9) && (decide (0 ≤ z.f3 ∧ z.f3 ≤ 9) && decide (0 ≤ z.f5 ∧ z.f5 ≤ 99))))
def nodeL (z : S34) : Bool := decide (0 ≤ z.f4 ∧ z.f4 ≤ 99)
def nodeB (z : S34) : Bool := if z.f0 = 1 then decide (z.f7.size ≤ 40) && decide (z.f8.length = 0) else (decide (z.f7.toList = ([] : List UInt8)) && (!z.f6 && decide (z.f8.length ≤ 6)))
/-- what both ask of an entry: its name, and that it stands behind the one before -/
def entC (es : List S47) (j : Nat) : Bool := nmFine (rd47 es (j : Int)).f0 && (decide (j = 0) || Go.Op.bytesLess (rd47 es ((j : Int) - 1)).f0.toList (rd47 es (j : Int)).f0.toList)
def entS (es : List S47) (j : Nat) : Bool := entC es j && decide (1 ≤ (rd47 es (j : Int)).f1 ∧ (rd47 es (j : Int)).f1 ≤ 9)
def entSF (es : List S47) (j : Nat) : Nat → Bool
  | 0 => true
  | d + 1 => entS es j && entSF es (j + 1) d
theorem rd47_mem {es : List S47} {j : Nat} (h : j < es.length) : rd47 es (j : Int) ∈ es := by rw [rd47_at h]; exact List.getElem_mem h
theorem inode_loop {gN : ByteArray → Option Bool} {gP : S34 → Option Bool} (hN : ∀ s : ByteArray, s.size ≤ 1048576 → gN s = some (nmFine s)) (z : S34) (hn : ∀ e ∈ z.f8, e.f0.size ≤ 1048576) (hl : z.f8.length ≤ 1048576) (d : Nat) : ∀ k j : Nat, j + d = z.f8.length → 2 * d < k → run (step40 gUser gIn gN gP) k (J40.j8 (j : Int) z.f0 z.f1 z.f2 z.f3 z.f4 z.f5 z.f6 z.f7 z.f8) = some (entSF z.f8 j d) := by
  induction d with
  | zero =>
    intro k j hj hk
    obtain ⟨k, rfl⟩ : ∃ m, k = m + 1 := ⟨k - 1, by omega⟩
    have h0 : ¬ (j : Int) < (z.f8.length : Int) := by omega
    rw [run_succ]
    simp only [step40, h0, decide_false, cond_false]; rfl
  | succ d ih =>
    intro k j hj hk
    obtain ⟨k, rfl⟩ : ∃ m, k = m + 1 + 1 := ⟨k - 2, by omega⟩
    have e := ih k (j + 1) (by omega) (by omega)
    have hm : (rd47 z.f8 (j : Int)).f0.size ≤ 1048576 := hn _ (rd47_mem (by omega))
    have w : w64 ((j : Int) + 1) = ((j + 1 : Nat) : Int) := wsucc (show j < z.f8.length by omega) (by omega)
    have w' : w64 ((j : Int) - 1) = (j : Int) - 1 := w64_id (by clear w; omega) (by clear w; omega)
    have h0 : (j : Int) < (z.f8.length : Int) := by clear w w'; omega
    have h1 : (0 : Int) ≤ (j : Int) := by clear w w'; omega
    rw [run_succ]
    simp only [step40, h0, h1, decide_true, cond_true, hN _ hm, in_eq, Option.bind_some, run_succ, w, w', e, entSF, entS, entC]
    clear w w' e ih
    generalize entSF z.f8 (j + 1) d = Z
    generalize nmFine (rd47 z.f8 (j : Int)).f0 = a
    generalize Go.Op.bytesLess (rd47 z.f8 ((j : Int) - 1)).f0.toList (rd47 z.f8 (j : Int)).f0.toList = b
    cases a with
    | false => simp
    | true =>
      by_cases c1 : 1 ≤ (rd47 z.f8 (j : Int)).f1 ∧ (rd47 z.f8 (j : Int)).f1 ≤ 9
      · by_cases c2 : j = 0
        · subst c2
          have c1' : 1 ≤ (rd47 z.f8 0).f1 ∧ (rd47 z.f8 0).f1 ≤ 9 := c1
          simp [c1']
        · have p1 : (j : Int) > 0 := by omega
          have p2 : 0 ≤ (j : Int) - 1 := by omega
          have p3 : (j : Int) - 1 < (z.f8.length : Int) := by omega
          have p4 : 0 < j := by omega
          have p5 : 1 ≤ (j : Int) := by omega
          simp only [p1, p2, p3, c1, c2, and_self, decide_true, decide_false, cond_true, Bool.not_true, cond_false, Bool.false_or, Bool.true_and, Bool.and_true]
          cases b <;> rfl
      · simp [c1]
noncomputable def nodeS (z : S34) : Bool := if z.f0 = 0 then plainB z else nodeA z && (nodeL z && (nodeB z && entSF z.f8 0 z.f8.length))
theorem inode_spec (z : S34) (hn : ∀ e ∈ z.f8, e.f0.size ≤ 1048576) (hl : z.f8.length ≤ 1048576) {k : Nat} (hk : 4000000 < k) : f40 k z = some (nodeS z) := by
  have hN : ∀ s : ByteArray, s.size ≤ 1048576 → f51 k s = some (nmFine s) := fun s hs => name_spec s (by omega) (by omega)
  have hP := f66_eq k
  show start40 (f34 k) (f35 k) (f51 k) (f66 k) (run (step40 (f34 k) (f35 k) (f51 k) (f66 k)) k) z = _
  rw [f34_eq, f35_eq]
  generalize f51 k = gN at hN
  generalize f66 k = gP at hP
  obtain ⟨k, rfl⟩ : ∃ m, k = m + 1 + 1 := ⟨k - 2, by omega⟩
  have e : run (step40 gUser gIn gN gP) k (J40.j8 0 z.f0 z.f1 z.f2 z.f3 z.f4 z.f5 z.f6 z.f7 z.f8) = some (entSF z.f8 0 z.f8.length) := inode_loop hN z hn hl z.f8.length k 0 (by omega) (by omega)
  have j0 : run (step40 gUser gIn gN gP) (k + 1 + 1) (J40.j5 z.f0 z.f1 z.f2 z.f3 z.f4 z.f5 z.f6 z.f7 z.f8) = some ((if z.f0 = 2 then decide (z.f7.toList = ([] : List UInt8)) && !z.f6 else if z.f0 = 1 then decide (z.f8.length = 0) else true) && entSF z.f8 0 z.f8.length) := by
    rw [run_succ]
    simp only [step40, run_succ, e, nil_toList, beq_int, beq_bl]
    by_cases d1 : z.f0 = 2
    · by_cases d2 : z.f7.toList = ([] : List UInt8) <;> cases z.f6 <;> simp [d1, d2]
    · by_cases d3 : z.f0 = 1
      · by_cases d4 : z.f8.length = 0
        · simp [d3, d4]
        · have : 0 < z.f8.length := by omega
          simp [d3, d4, this]
      · simp [d1, d3]
  unfold start40 nodeS
  simp only [j0, hP, in_eq, gUser, Option.bind_some]
  by_cases c : z.f0 = 0
  · simp [c]
  · simp only [beq_int]
    rw [if_neg c, decide_eq_false c, cond_false]
    generalize entSF z.f8 0 z.f8.length = Z
    clear e j0
    unfold nodeA nodeL nodeB
    by_cases c0 : 1 ≤ z.f0 ∧ z.f0 ≤ 2
    · by_cases c1 : 0 ≤ z.f1 ∧ z.f1 ≤ 511
      · by_cases c2 : 0 ≤ z.f2 ∧ z.f2 ≤ 9
        · by_cases c3 : 0 ≤ z.f3 ∧ z.f3 ≤ 9
          · by_cases c4 : 0 ≤ z.f5 ∧ z.f5 ≤ 99
            · by_cases c5 : 0 ≤ z.f4 ∧ z.f4 ≤ 99
              · simp only [c0, c1, c2, c3, c4, c5, and_self, decide_true, Bool.not_true, cond_false, Bool.true_and]
                by_cases d3 : z.f0 = 1
                · by_cases d4 : (z.f7.size : Int) > 40
                  · have : ¬ z.f7.size ≤ 40 := by omega
                    simp [d3, d4, this]
                  · have : z.f7.size ≤ 40 := by omega
                    by_cases d5 : z.f8.length = 0
                    · simp [d3, d4, this, d5]
                    · simp [d3, d4, this, d5]
                · have d2 : z.f0 = 2 := by omega
                  by_cases d6 : z.f7.toList = ([] : List UInt8)
                  · have d7 := toList_nil.1 d6
                    by_cases d8 : z.f8.length ≤ 6
                    · have d9 : ¬ (z.f8.length : Int) > 6 := by omega
                      simp [d2, d6, d7, d8, d9]
                      try omega
                    · have d9 : (z.f8.length : Int) > 6 := by omega
                      simp [d2, d6, d7, d8, d9]
                  · by_cases d4 : (z.f7.size : Int) > 40 <;> simp [d2, d4, d6]
              · simp [c0, c1, c2, c3, c4, c5]
            · simp [c0, c1, c2, c3, c4]
          · simp [c0, c1, c2, c3]
        · simp [c0, c1, c2]
      · simp [c0, c1]
    · simp [c0]
end Go.Sx
