/- The plain law FnPathSteps, over what its functions compute: a part. No further condition. -/
import Derived.Test.YtjjblclmpjaegaaDoorSxFFnPathSteps
import Derived.Test.YtjjblclmpjaegaaDoorSxV
set_option linter.unusedVariables false
set_option linter.unusedSimpArgs false
namespace Go.Sx
open Go.RowKit Go.Lib
set_option linter.unusedVariables false
set_option linter.unusedSimpArgs false
/-! ### texts cut at '/' -/
theorem w64_id {n : Int} (h1 : -9223372036854775808 ≤ n) (h2 : n ≤ 9223372036854775807) : w64 n = n := w64_in ⟨h1, h2⟩
theorem wsucc {i n : Nat} (h : i < n) (hn : n ≤ 4611686018427387904) : w64 ((i : Int) + 1) = ((i + 1 : Nat) : Int) := by rw [w64_id (by omega) (by omega)]; omega
theorem bt_get {s : ByteArray} {i : Nat} (h : i < s.size) : bt s (i : Int) = ((s.get! i).toNat : Int) := by
  unfold bt
  have h' : ((i : Int)).toNat < s.size := by omega
  rw [dif_pos h']
  have e : ((i : Int)).toNat = i := by omega
  congr 2
  simp only [e]
  obtain ⟨a⟩ := s
  have h2 : i < a.size := h
  show a[i] = a[i]!
  exact (getElem!_pos a i h2).symm
theorem in_eq (a b c : Int) : start23 (a, b, c) = some (decide (b ≤ a ∧ a ≤ c)) := by
  show cond (decide (a ≥ b)) (some (decide (a ≤ c))) (some false) = _
  by_cases h1 : b ≤ a <;> by_cases h2 : a ≤ c <;> simp [h1, h2]
def nmFine (s : ByteArray) : Bool := decide ((1 : Int) ≤ s.size ∧ (s.size : Int) ≤ 3) && nmAll s 0 s.size
theorem nm_spec (s : ByteArray) (hs : s.size ≤ 1000000000) (d : Nat) : ∀ k i : Nat, i + d = s.size → 2 * d < k → run (step12 start23) k (J12.j2 s (i : Int)) = some (decide ((1 : Int) ≤ s.size ∧ (s.size : Int) ≤ 3) && nmAll s i d) := by
  induction d with
  | zero =>
    intro k i hi hk
    obtain ⟨k, rfl⟩ : ∃ m, k = m + 1 := ⟨k - 1, by omega⟩
    have h0 : ¬ (i : Int) < (s.size : Int) := by omega
    rw [run_succ]
    simp only [step12, h0, decide_false, cond_false, in_eq, Option.bind_some]
    simp [nmAll]
  | succ d ih =>
    intro k i hi hk
    obtain ⟨k, rfl⟩ : ∃ m, k = m + 1 + 1 := ⟨k - 2, by omega⟩
    have h0 : (i : Int) < (s.size : Int) := by omega
    have h1 : (0 : Int) ≤ (i : Int) := by omega
    rw [run_succ]
    simp only [step12, h0, h1, decide_true, cond_true, bt_get (show i < s.size by omega), run_succ]
    rw [wsucc (show i < s.size by omega) (by omega), ih k (i + 1) (by omega) (by omega)]
    show _ = some (_ && (!nmOut (s.get! i).toNat && nmAll s (i + 1) d))
    generalize (s.get! i).toNat = b
    rw [show decide ((b : Int) < 97) = decide (b < 97) from decide_eq_decide.2 (by omega), show decide ((b : Int) > 122) = decide (122 < b) from decide_eq_decide.2 (by omega)]
    unfold nmOut
    cases decide (b < 97) <;> cases decide (122 < b) <;> simp
theorem name_spec (s : ByteArray) (hs : s.size ≤ 1000000000) {k : Nat} (hk : 2 * s.size < k) : f12 k s = some (nmFine s) := by
  show run (step12 (f23 k)) k (J12.j2 s 0) = _
  exact nm_spec s hs s.size k 0 (by omega) hk

/-- The pieces of a text between its slashes. -/
def spl : List UInt8 → List (List UInt8)
  | [] => [[]]
  | b :: l => if b = 47 then [] :: spl l else match spl l with
    | p :: ps => (b :: p) :: ps
    | [] => [[b]]
theorem spl_ne : ∀ l, spl l ≠ []
  | [] => by simp [spl]
  | b :: l => by
    unfold spl
    split
    · simp
    · split <;> simp
theorem index_cons (b : UInt8) (l : List UInt8) (h : b ≠ 47) : index (b :: l) [47] = if index l [47] == -1 then -1 else index l [47] + 1 := by
  have hp : ([47] : List UInt8).isPrefixOf (b :: l) = false := by simp [List.isPrefixOf, Ne.symm h]
  rw [index, hp]; simp
theorem split_spl : ∀ l : List UInt8, splitK [47] 0 (count l [47]) l = spl l
  | [] => by rw [count_miss (by simp [index])]; rfl
  | b :: l => by
    have ih := split_spl l
    by_cases h : b = 47
    · subst h
      have hix : index (47 :: l) [47] = ((0 : Nat) : Int) := by rw [index]; simp [List.isPrefixOf]
      rw [count_cons_eq, Nat.add_comm, splitK, hix, if_neg (by decide)]
      simp only [spl, if_pos]
      simpa using ih
    · rw [count_cons_ne b 47 l h]
      by_cases hm : index l [47] = -1
      · rw [count_miss hm] at ih ⊢
        unfold splitK at ih ⊢
        simp only [spl, if_neg h, ← ih]
      · have hge := index_ge l [47]
        obtain ⟨j, hj⟩ : ∃ j : Nat, index l [47] = j := ⟨(index l [47]).toNat, by omega⟩
        have hix' : index (b :: l) [47] = ((j + 1 : Nat) : Int) := by rw [index_cons b l h, if_neg (fun e => hm (beq_iff_eq.1 e)), hj]; omega
        rw [count_hit (by simp) hj, Nat.add_comm] at ih ⊢
        have m1 : ¬ ((j : Int) == -1) = true := fun e => by have := beq_iff_eq.1 e; omega
        have m2 : ¬ (((j + 1 : Nat) : Int) == -1) = true := fun e => by have := beq_iff_eq.1 e; omega
        rw [splitK, hj, if_neg m1] at ih
        rw [splitK, hix', if_neg m2]
        simp only [spl, if_neg h, ← ih]
        simp
/-- What is still to be cut: from a place on, looked at from another place on. -/
def pcs (s : ByteArray) : Nat → Nat → Nat → List ByteArray
  | 0, a, i => [s.extract a i]
  | d + 1, a, i => if (s.get! i).toNat = 47 then s.extract a i :: pcs s d (i + 1) (i + 1) else pcs s d a (i + 1)
theorem pcs_ne (s : ByteArray) : ∀ d a i, pcs s d a i ≠ []
  | 0, a, i => by simp [pcs]
  | d + 1, a, i => by
    unfold pcs
    split
    · simp
    · exact pcs_ne s d a (i + 1)
theorem get_list {s : ByteArray} {i : Nat} (h : i < s.size) : s.data.toList.drop i = s.get! i :: s.data.toList.drop (i + 1) := by
  have h' : i < s.data.toList.length := by simpa using h
  rw [List.drop_eq_getElem_cons h']
  congr 1
  obtain ⟨a⟩ := s
  have h2 : i < a.size := h
  show a.toList[i] = a[i]!
  rw [getElem!_pos a i h2]
  simp
theorem ext_list (s : ByteArray) (a i : Nat) : (s.extract a i).data.toList = (s.data.toList.drop a).take (i - a) := by
  rw [extract_data]
theorem take_next {l : List UInt8} {a i : Nat} {b : UInt8} {r : List UInt8} (ha : a ≤ i) (h : l.drop i = b :: r) : (l.drop a).take (i + 1 - a) = (l.drop a).take (i - a) ++ [b] := by
  have : (l.drop a)[i - a]? = some b := by
    rw [List.getElem?_drop, show a + (i - a) = i by omega]
    have := congrArg (fun x => x[0]?) h
    simpa using this
  rw [show i + 1 - a = (i - a) + 1 by omega, List.take_add_one, this]
  rfl
theorem pcs_spl (s : ByteArray) : ∀ d a i, i + d = s.size → a ≤ i → ∃ p ps, spl (s.data.toList.drop i) = p :: ps ∧ (pcs s d a i).map (·.data.toList) = ((s.data.toList.drop a).take (i - a) ++ p) :: ps
  | 0, a, i, h, ha => by
    have : s.data.toList.drop i = [] := by
      rw [List.drop_eq_nil_iff]
      simp only [Array.length_toList]
      have : s.data.size = s.size := rfl
      omega
    rw [this]
    refine ⟨[], [], rfl, ?_⟩
    simp only [pcs, List.map_cons, List.map_nil, ext_list, List.append_nil]
  | d + 1, a, i, h, ha => by
    have hg := get_list (s := s) (i := i) (by omega)
    rw [hg]
    unfold pcs
    by_cases c : s.get! i = 47
    · obtain ⟨p, ps, h1, h2⟩ := pcs_spl s d (i + 1) (i + 1) (by omega) (Nat.le_refl _)
      rw [if_pos (by rw [c]; rfl)]
      refine ⟨[], spl (s.data.toList.drop (i + 1)), by simp [spl, c], ?_⟩
      rw [List.map_cons, h2, h1, ext_list, Nat.sub_self]
      simp
    · obtain ⟨p, ps, h1, h2⟩ := pcs_spl s d a (i + 1) (by omega) (by omega)
      have c' : ¬ (s.get! i).toNat = 47 := fun e => c (UInt8.toNat.inj e)
      rw [if_neg c']
      refine ⟨s.get! i :: p, ps, by simp [spl, c, h1], ?_⟩
      rw [h2, take_next ha hg, List.append_assoc]
      rfl
theorem data_inj {a b : ByteArray} (h : a.data.toList = b.data.toList) : a = b := by
  cases a; cases b
  simp at h
  simp [h]
theorem split_pcs (s : ByteArray) : splitB ⟨#[47]⟩ 0 (countB s ⟨#[47]⟩) s = pcs s s.size 0 0 := by
  obtain ⟨p, ps, h1, h2⟩ := pcs_spl s s.size 0 0 (by omega) (Nat.le_refl _)
  have h3 := splitB_data ⟨#[47]⟩ 0 (countB s ⟨#[47]⟩) s
  have e : splitK (⟨#[47]⟩ : ByteArray).data.toList 0 (countB s ⟨#[47]⟩) s.data.toList = spl s.data.toList := split_spl s.data.toList
  rw [e] at h3
  have h4 : (splitB ⟨#[47]⟩ 0 (countB s ⟨#[47]⟩) s).map (·.data.toList) = (pcs s s.size 0 0).map (·.data.toList) := by
    rw [h3, h2]
    simp only [List.drop_zero] at h1
    rw [h1]
    simp
  have key : ∀ (l l' : List ByteArray), l.map (·.data.toList) = l'.map (·.data.toList) → l = l' := by
    intro l
    induction l with
    | nil => intro l' h; cases l' with
      | nil => rfl
      | cons _ _ => simp at h
    | cons x l ih => intro l' h; cases l' with
      | nil => simp at h
      | cons y l' =>
        simp only [List.map_cons, List.cons.injEq] at h
        rw [data_inj h.1, ih l' h.2]
  exact key _ _ h4
theorem pcs_small (s : ByteArray) : ∀ d a i, i + d = s.size → ∀ p ∈ pcs s d a i, p.size ≤ s.size
  | 0, a, i, h, p, hp => by
    simp only [pcs, List.mem_singleton] at hp
    subst hp
    simp only [ByteArray.size_extract]
    omega
  | d + 1, a, i, h, p, hp => by
    unfold pcs at hp
    split at hp
    · rcases List.mem_cons.1 hp with rfl | hp
      · simp only [ByteArray.size_extract]; omega
      · exact pcs_small s d (i + 1) (i + 1) (by omega) p hp
    · exact pcs_small s d a (i + 1) (by omega) p hp
end Go.Sx
