/- A new file system is valid: at every code. -/
import Derived.Test.YtpljcphiaajjaaaBdFnFsNew
import Derived.WideShapes
import Derived.IntWalk
import Derived.OpenShut
namespace Go.Proofs.Ytpljcphiaajjaaa.Pure
open Go.RowKit Go.Proofs.Ytpljcphiaajjaaa.XFnFsNew Go.Proofs.YtpljcphiaajjaaaW.PrintWords Go.Proofs.YtpljcphiaajjaaaW.PrintLast
/-! ### small facts on numbers, bytes and rounds -/
theorem w64 {n : Int} (h1 : -9223372036854775808 ≤ n) (h2 : n ≤ 9223372036854775807) : wrap64 n = n := by unfold wrap64; omega
theorem w64_range (n : Int) : -9223372036854775808 ≤ wrap64 n ∧ wrap64 n ≤ 9223372036854775807 := by unfold wrap64; omega
theorem xor_ok {x y : Int} (hx : 0 ≤ x) (hx2 : x < 4611686018427387904) (hy : 0 ≤ y) (hy2 : y < 4611686018427387904) : 0 ≤ Go.bits .xor .i64 x y ∧ Go.bits .xor .i64 x y < 4611686018427387904 := by
  have h1 : (BitVec.ofInt 64 x ^^^ BitVec.ofInt 64 y).toNat < 2 ^ 62 := by
    rw [BitVec.toNat_xor]
    apply Nat.xor_lt_two_pow
    · rw [BitVec.toNat_ofInt]; omega
    · rw [BitVec.toNat_ofInt]; omega
  have h2 : Go.bits .xor .i64 x y = ((BitVec.ofInt 64 x ^^^ BitVec.ofInt 64 y).toNat : Int) := by
    show IntKind.wrap .i64 ((BitVec.ofInt 64 x ^^^ BitVec.ofInt 64 y).toNat : Int) = _
    generalize (BitVec.ofInt 64 x ^^^ BitVec.ofInt 64 y).toNat = m at h1
    exact IntWalk.i64_in _ (by omega)
  rw [h2]; omega
theorem tmod_ok {x n : Int} (hx : 0 ≤ x) (hn : 1 ≤ n) : 0 ≤ Int.tmod x n ∧ Int.tmod x n < n := by
  rw [Int.tmod_eq_emod_of_nonneg hx]
  exact ⟨Int.emod_nonneg _ (by omega), Int.emod_lt_of_pos _ (by omega)⟩
theorem tdiv_ok {x n : Int} (hx : 0 ≤ x) (hn : 1 ≤ n) : 0 ≤ Int.tdiv x n ∧ Int.tdiv x n ≤ x := by
  rw [Int.tdiv_eq_ediv_of_nonneg hx]
  exact ⟨Int.ediv_nonneg hx (by omega), Int.ediv_le_self _ hx⟩
theorem rd_mem {xs : List Int} {i : Int} (h0 : 0 ≤ i) (h1 : i < (xs.length : Int)) : rd xs i ∈ xs := by
  have hl : i.toNat < xs.length := by omega
  unfold rd
  rw [List.getD_eq_getElem?_getD, List.getElem?_eq_getElem hl]
  exact List.getElem_mem hl
def Bytes (s : List Int) : Prop := ∀ x ∈ s, 0 ≤ x ∧ x ≤ 255
theorem bytes_of_wf {s : List Int} (h : ∀ x ∈ s, (Lit.int .u8 x).wf = true) : Bytes s := fun x hx => Go.bounds_u8 (h x hx)
theorem bytes_rd {s : List Int} (h : Bytes s) {i : Int} (h0 : 0 ≤ i) (h1 : i < (s.length : Int)) : 0 ≤ rd s i ∧ rd s i ≤ 255 := h _ (rd_mem h0 h1)
theorem toList_inj {a b : ByteArray} : a.toList = b.toList ↔ a = b := by
  rw [ByteArray.toList_eq, ByteArray.toList_eq]
  constructor
  · intro h; exact Go.WideShapes.bytes_inj h
  · rintro rfl; rfl
theorem toList_nil {a : ByteArray} : a.toList = ([] : List UInt8) ↔ a.size = 0 := by
  rw [ByteArray.toList_eq, List.eq_nil_iff_length_eq_zero, data_length]
/-! ### the reader of a code: l6Open, pick (printed without joins) -/
theorem open_ok {l0 : List Int} (hb : Bytes l0) : ∃ s, spec_l6Open.f l0 = some (s, 0) ∧ Bytes s ∧ s.length ≤ 2000 := by
  unfold spec_l6Open.f
  by_cases h : (l0.length : Int) > 2000
  · rw [if_pos h, if_pos (by omega)]
    exact ⟨_, rfl, fun x hx => hb x (List.mem_of_mem_take hx), by rw [List.length_take]; omega⟩
  · rw [if_neg h]
    exact ⟨_, rfl, hb, by omega⟩
theorem pick_ok {s : List Int} (hb : Bytes s) (hs : s.length ≤ 2000) {p : Int} (hp0 : 0 ≤ p) (hp1 : p ≤ 1000000000) (n : Int) :
    ∃ v, spec_l6Rd_pick.f s p n = some (v, p + 1) ∧ 0 ≤ v ∧ (1 ≤ n → v < n) ∧ (n < 1 → v = 0) := by
  have e1 : wrap64 (p + 1) = p + 1 := w64 (by omega) (by omega)
  have e2 : wrap64 (p + 1 - 1) = p := by rw [show p + 1 - 1 = p by omega]; exact w64 (by omega) (by omega)
  unfold spec_l6Rd_pick.f
  by_cases hn : n < 1
  · rw [if_pos hn]; simp only [e1]
    exact ⟨0, rfl, by omega, by omega, fun _ => rfl⟩
  · rw [if_neg hn]; simp only [e1, e2]
    by_cases h0 : (s.length : Int) = 0
    · rw [if_pos h0]
      exact ⟨0, rfl, by omega, by omega, fun _ => rfl⟩
    · rw [if_neg h0]
      by_cases hl : p < (s.length : Int)
      · rw [if_pos hl, if_pos hp0, if_neg (by omega)]
        have hr := bytes_rd hb hp0 hl
        rw [w64 (n := rd s p) (by omega) (by omega)]
        have ht := tmod_ok hr.1 (show 1 ≤ n by omega)
        exact ⟨_, rfl, ht.1, fun _ => ht.2, by omega⟩
      · rw [if_neg hl]
        have a1 := tmod_ok (x := p) (n := (s.length : Int)) hp0 (by omega)
        rw [if_pos a1.1, if_pos a1.2]
        have e3 : wrap64 (p * 7) = p * 7 := w64 (by omega) (by omega)
        have e4 : wrap64 (p * 7 + 3) = p * 7 + 3 := w64 (by omega) (by omega)
        simp only [e3, e4]
        have a2 := tmod_ok (x := p * 7 + 3) (n := (s.length : Int)) (by omega) (by omega)
        rw [if_pos a2.1, if_pos a2.2, if_neg (by omega)]
        have b1 := bytes_rd hb a1.1 a1.2
        have b2 := bytes_rd hb a2.1 a2.2
        have a3 := tdiv_ok (x := p) (n := (s.length : Int)) hp0 (by omega)
        generalize rd s (p.tmod (s.length : Int)) = x1 at b1 ⊢
        generalize rd s ((p * 7 + 3).tmod (s.length : Int)) = x2 at b2 ⊢
        generalize p.tdiv (s.length : Int) = x3 at a3 ⊢
        have c1 : wrap64 x1 = x1 := w64 (by omega) (by omega)
        have c2 : wrap64 x2 = x2 := w64 (by omega) (by omega)
        have c3 : wrap64 x3 = x3 := w64 (by omega) (by omega)
        have c4 : wrap64 (x1 * 131) = x1 * 131 := w64 (by omega) (by omega)
        have c5 : wrap64 (x2 * 1117) = x2 * 1117 := w64 (by omega) (by omega)
        have c6 : wrap64 (x1 * 131 + x2 * 1117) = x1 * 131 + x2 * 1117 := w64 (by omega) (by omega)
        have c7 : wrap64 (p * 29) = p * 29 := w64 (by omega) (by omega)
        have c8 : wrap64 (x1 * 131 + x2 * 1117 + p * 29) = x1 * 131 + x2 * 1117 + p * 29 := w64 (by omega) (by omega)
        have c9 : wrap64 (x3 * 53) = x3 * 53 := w64 (by omega) (by omega)
        have c10 : wrap64 (x1 * 131 + x2 * 1117 + p * 29 + x3 * 53) = x1 * 131 + x2 * 1117 + p * 29 + x3 * 53 := w64 (by omega) (by omega)
        simp only [c1, c2, c3, c4, c5, c6, c7, c8, c9, c10]
        have a4 := tdiv_ok (x := x1 * 131 + x2 * 1117 + p * 29 + x3 * 53) (n := 64) (by omega) (by omega)
        have c11 : wrap64 ((x1 * 131 + x2 * 1117 + p * 29 + x3 * 53).tdiv 64) = (x1 * 131 + x2 * 1117 + p * 29 + x3 * 53).tdiv 64 := w64 (by omega) (by omega)
        rw [c11]
        have a5 := xor_ok (x := x1 * 131 + x2 * 1117 + p * 29 + x3 * 53) (y := (x1 * 131 + x2 * 1117 + p * 29 + x3 * 53).tdiv 64) (by omega) (by omega) a4.1 (by omega)
        have a6 := tmod_ok a5.1 (show 1 ≤ n by omega)
        exact ⟨_, rfl, a6.1, fun _ => a6.2, by omega⟩
/-! ### rows that are copied, and rows that are held against themselves -/
theorem to_gen {β : Type} {l0 : Nat → List β → Int → Option (List β)} (xs : List β) (K : Nat)
    (hstep : ∀ (k : Nat) (acc : List β) (i : Nat) (hi : i < xs.length), K ≤ k → acc.length = xs.length → l0 (k + 1) acc (i : Int) = l0 k (acc.set i (xs[i]'hi)) ((i + 1 : Nat) : Int))
    (hend : ∀ (k : Nat) (acc : List β), l0 (k + 1) acc (xs.length : Int) = some acc) :
    ∀ (k : Nat) (acc : List β), acc.length = xs.length → xs.length + K < k → l0 k acc 0 = some xs := by
  have key : ∀ (d : Nat) (k : Nat) (acc : List β) (i : Nat), i + d = xs.length → d + K < k → acc.length = xs.length → (∀ j, j < i → acc[j]? = xs[j]?) → l0 k acc (i : Int) = some xs := by
    intro d
    induction d with
    | zero =>
      intro k acc i hd hk hl hj
      obtain ⟨k, rfl⟩ : ∃ m, k = m + 1 := ⟨k - 1, by omega⟩
      obtain rfl : i = xs.length := by omega
      rw [hend]
      congr 1
      apply List.ext_getElem?
      intro j
      by_cases h : j < xs.length
      · exact hj j h
      · rw [List.getElem?_eq_none (by omega), List.getElem?_eq_none (by omega)]
    | succ d ih =>
      intro k acc i hd hk hl hj
      obtain ⟨k, rfl⟩ : ∃ m, k = m + 1 := ⟨k - 1, by omega⟩
      have hi : i < xs.length := by omega
      rw [hstep k acc i hi (by omega) hl]
      refine ih k _ (i + 1) (by omega) (by omega) (by rw [List.length_set]; exact hl) (fun j hjl => ?_)
      by_cases e : j = i
      · subst e
        rw [List.getElem?_set_self (by omega), List.getElem?_eq_getElem hi]
      · rw [List.getElem?_set_ne (by omega)]
        exact hj j (by omega)
  intro k acc hl hk
  exact key xs.length k acc 0 (by omega) (by omega) hl (fun j hj => absurd hj (Nat.not_lt_zero j))
theorem eq_gen {l0 : Nat → Int → Option Bool} (n : Nat) (K : Nat)
    (hstep : ∀ (k : Nat) (i : Nat), i < n → K ≤ k → l0 (k + 1) (i : Int) = l0 k ((i + 1 : Nat) : Int)) (hend : ∀ (k : Nat), l0 (k + 1) (n : Int) = some true) :
    ∀ (k : Nat), n + K < k → l0 k 0 = some true := by
  have key : ∀ (d : Nat) (k : Nat) (i : Nat), i + d = n → d + K < k → l0 k (i : Int) = some true := by
    intro d
    induction d with
    | zero =>
      intro k i hd hk
      obtain ⟨k, rfl⟩ : ∃ m, k = m + 1 := ⟨k - 1, by omega⟩
      obtain rfl : i = n := by omega
      exact hend k
    | succ d ih =>
      intro k i hd hk
      obtain ⟨k, rfl⟩ : ∃ m, k = m + 1 := ⟨k - 1, by omega⟩
      rw [hstep k i (by omega) (by omega)]
      exact ih k (i + 1) (by omega) (by omega)
  intro k hk
  exact key n k 0 (by omega) (by omega)
theorem rd_get {l : List Int} {i : Nat} (h : i < l.length) : rd l (i : Int) = l[i] := by simp [rd, h]
theorem rdOf_get {α : Type} {z : α} {l : List α} {i : Nat} (h : i < l.length) : rdOf z l (i : Int) = l[i] := by simp [rdOf, h]
theorem wsucc {i n : Nat} (h : i < n) (hn : n ≤ 4611686018427387904) : wrap64 ((i : Int) + 1) = ((i + 1 : Nat) : Int) := by rw [w64 (by omega) (by omega)]; omega
/-! ### how modes are drawn -/
theorem mode_ok {s : List Int} (hb : Bytes s) (hs : s.length ≤ 2000) {p : Int} (hp0 : 0 ≤ p) (hp1 : p ≤ 800000000) : ∃ m p', spec_l91Mode.f s p = some (m, p') ∧ p ≤ p' ∧ p' ≤ p + 10 := by
  obtain ⟨v, hv, v0, v1, _⟩ := pick_ok hb hs hp0 (by omega) 20
  unfold spec_l91Mode.f
  rw [hv]; simp only [Option.bind_some]
  by_cases c : v = 0
  · rw [if_pos c]
    obtain ⟨a, ha, a0, a1, _⟩ := pick_ok hb hs (p := p + 1) (by omega) (by omega) 3
    have a1 := a1 (by omega)
    rw [ha]; simp only [Option.bind_some]
    rw [if_pos a0, if_pos (by simpa using a1)]
    exact ⟨_, _, rfl, by omega, by omega⟩
  · rw [if_neg c]
    obtain ⟨a, ha, _, _, _⟩ := pick_ok hb hs (p := p + 1) (by omega) (by omega) 8
    obtain ⟨b, hb', _, _, _⟩ := pick_ok hb hs (p := p + 1 + 1) (by omega) (by omega) 64
    obtain ⟨d, hd, _, _, _⟩ := pick_ok hb hs (p := p + 1 + 1 + 1) (by omega) (by omega) 8
    obtain ⟨e, he, e0, e1, _⟩ := pick_ok hb hs (p := p + 1 + 1 + 1 + 1) (by omega) (by omega) 7
    have e1 := e1 (by omega)
    rw [ha]; simp only [Option.bind_some]
    rw [hb']; simp only [Option.bind_some]
    rw [hd]; simp only [Option.bind_some]
    rw [he]; simp only [Option.bind_some]
    rw [if_pos e0, if_pos (by simpa using e1)]
    exact ⟨_, _, rfl, by omega, by omega⟩
/-! ### the folders of a file system: walked from node 0, each met once, against: one name each, and a way up to node 0 -/
section Graph
variable (E : Nat → List Nat) (F : Nat → Bool) (n : Nat)
def gKids (i : Nat) : List Nat := (E i).filter F
def gCnt (j : Nat) : Nat := ((List.range n).flatMap E).count j
/-- k steps up from j lead to node 0 -/
inductive GUp (E : Nat → List Nat) : Nat → Nat → Prop
  | top : GUp E 0 0
  | step {i j k : Nat} : j ∈ E i → GUp E k i → GUp E (k + 1) j
structure GInv (todo M : List Nat) : Prop where
  cnt : ∀ j, F j = true → todo.count j + M.count j = (if j = 0 then 1 else 0) + (M.flatMap E).count j
  inT : ∀ j ∈ todo, F j = true ∧ j < n ∧ ∃ k, k ≤ M.length ∧ GUp E k j
  inM : ∀ j ∈ M, F j = true ∧ j < n ∧ ∃ k, k < M.length ∧ GUp E k j
  nd : M.Nodup
theorem gInv_start (h0 : F 0 = true) (hn : 0 < n) : GInv E F n [0] [] where
  cnt := by intro j _; by_cases h : j = 0 <;> simp [h, List.count_cons] ; omega
  inT := by intro j hj; simp at hj; subst hj; exact ⟨h0, hn, 0, Nat.le_refl _, .top⟩
  inM := by intro j hj; cases hj
  nd := List.nodup_nil
theorem gKids_count {j : Nat} (i : Nat) (h : F j = true) : (gKids E F i).count j = (E i).count j := by
  unfold gKids; rw [List.count_filter h]
theorem gInv_step {i : Nat} {rest M : List Nat} (hE : ∀ i j, i < n → j ∈ E i → j < n) (h : GInv E F n (i :: rest) M) (hi : i ∉ M) : GInv E F n (rest ++ gKids E F i) (M ++ [i]) where
  cnt := by
    intro j hj
    have := h.cnt j hj
    rw [List.count_append, List.count_append, List.flatMap_append, List.count_append, gKids_count E F i hj]
    rw [List.count_cons] at this
    rw [List.count_singleton]
    have e : [i].flatMap E = E i := by simp
    rw [e]
    omega
  inT := by
    intro j hj
    obtain ⟨a, b, k, c, d⟩ := h.inT i (by simp)
    rcases List.mem_append.1 hj with h1 | h1
    · obtain ⟨a, b, k, c, d⟩ := h.inT j (by simp [h1])
      exact ⟨a, b, k, by simp; omega, d⟩
    · unfold gKids at h1
      obtain ⟨h1, h2⟩ := List.mem_filter.1 h1
      exact ⟨h2, hE i j b h1, k + 1, by simp; omega, .step h1 d⟩
  inM := by
    intro j hj
    rcases List.mem_append.1 hj with h1 | h1
    · obtain ⟨a, b, k, c, d⟩ := h.inM j h1
      exact ⟨a, b, k, by simp; omega, d⟩
    · have : j = i := by simpa using h1
      subst this
      obtain ⟨a, b, k, c, d⟩ := h.inT j (by simp)
      exact ⟨a, b, k, by simp; omega, d⟩
  nd := by
    rw [List.nodup_append]
    refine ⟨h.nd, by simp, ?_⟩
    intro a ha b hb
    have : b = i := by simpa using hb
    subst this
    rintro rfl
    exact hi ha
/-- what is met is a part of all -/
theorem gPart {M : List Nat} (nd : M.Nodup) (h : ∀ j ∈ M, j < n) : List.Perm (M ++ (List.range n).filter (fun j => decide (j ∉ M))) (List.range n) := by
  rw [List.perm_ext_iff_of_nodup]
  · intro a
    simp only [List.mem_append, List.mem_filter, List.mem_range, decide_eq_true_eq]
    constructor
    · rintro (h1 | h1)
      · exact h a h1
      · exact h1.1
    · intro h1
      by_cases c : a ∈ M
      · exact Or.inl c
      · exact Or.inr ⟨h1, c⟩
  · rw [List.nodup_append]
    refine ⟨nd, List.nodup_range.filter _, ?_⟩
    intro a ha b hb
    rintro rfl
    simp at hb
    exact hb.2 ha
  · exact List.nodup_range
theorem gPart_count {M : List Nat} (nd : M.Nodup) (h : ∀ j ∈ M, j < n) (j : Nat) : (M.flatMap E).count j + (((List.range n).filter (fun j => decide (j ∉ M))).flatMap E).count j = gCnt E n j := by
  unfold gCnt
  rw [← ((gPart n nd h).flatMap_right E).count_eq, List.flatMap_append, List.count_append]
theorem gPart_len {M : List Nat} (nd : M.Nodup) (h : ∀ j ∈ M, j < n) : M.length ≤ n := by
  have := (gPart n nd h).length_eq
  rw [List.length_append, List.length_range] at this
  omega
/-- where each folder has one name and node 0 none, no folder is met twice -/
theorem gOnce {i : Nat} {rest M : List Nat} (h : GInv E F n (i :: rest) M) (h0 : gCnt E n 0 = 0) (h1 : ∀ j, j < n → F j = true → 0 < j → gCnt E n j = 1) : i ∉ M := by
  intro hm
  obtain ⟨a, b, _⟩ := h.inT i (by simp)
  have e := h.cnt i a
  have p := gPart_count E n h.nd (fun j hj => (h.inM j hj).2.1) i
  have c1 : 1 ≤ (i :: rest).count i := List.count_pos_iff.2 (by simp)
  have c2 : 1 ≤ M.count i := List.count_pos_iff.2 hm
  by_cases z : i = 0
  · subst z; rw [if_pos rfl] at e; omega
  · rw [if_neg z] at e; have := h1 i b a (by omega); omega
/-- at the end all folders from which one comes up to node 0 were met -/
theorem gMet {M : List Nat} (h : GInv E F n [] M) (hF : ∀ i j, j ∈ E i → F i = true) {k j : Nat} (hu : GUp E k j) (hj : F j = true) : j ∈ M := by
  induction hu with
  | top =>
    have e := h.cnt 0 hj
    rw [if_pos rfl] at e
    simp at e
    exact List.count_pos_iff.1 (by omega)
  | @step i j k hm hu ih =>
    have hi := ih (hF i j hm)
    have e := h.cnt j hj
    simp at e
    have : 1 ≤ (M.flatMap E).count j := List.count_pos_iff.2 (List.mem_flatMap.2 ⟨i, hi, hm⟩)
    exact List.count_pos_iff.1 (by omega)
/-- at the end, where all folders were met, each but node 0 has one name -/
theorem gOne {M : List Nat} (h : GInv E F n [] M) (hF : ∀ i j, j ∈ E i → F i = true) (hall : ∀ j, j < n → F j = true → j ∈ M) {j : Nat} (hj : F j = true) (hjn : j < n) (hj0 : 0 < j) : gCnt E n j = 1 := by
  have p := gPart_count E n h.nd (fun j hj => (h.inM j hj).2.1) j
  have e := h.cnt j hj
  rw [if_neg (by omega)] at e
  have z : (((List.range n).filter (fun j => decide (j ∉ M))).flatMap E).count j = 0 := by
    rw [List.count_eq_zero]
    intro hm
    obtain ⟨i, h1, h2⟩ := List.mem_flatMap.1 hm
    simp at h1
    exact h1.2 (hall i h1.1 (hF i j h2))
  have m1 : M.count j = 1 := by
    have := List.count_pos_iff.2 (hall j hjn hj)
    have := List.nodup_iff_count.1 h.nd j
    omega
  simp at e
  omega
theorem gUp_of {M : List Nat} (h : GInv E F n [] M) {j : Nat} (hj : j ∈ M) : ∃ k, k < n ∧ GUp E k j := by
  obtain ⟨_, _, k, a, b⟩ := h.inM j hj
  have := gPart_len n h.nd (fun j hj => (h.inM j hj).2.1)
  exact ⟨k, by omega, b⟩
theorem gCnt_pos {j : Nat} : 0 < gCnt E n j ↔ ∃ i, i < n ∧ j ∈ E i := by
  unfold gCnt
  rw [List.count_pos_iff, List.mem_flatMap]
  simp
theorem gUniq {i i' j : Nat} (h : gCnt E n j = 1) (hi : i < n) (hi' : i' < n) (hj : j ∈ E i) (hj' : j ∈ E i') : i = i' := by
  by_cases e : i = i'
  · exact e
  · have p := gPart_count E n (M := [i, i']) (by simp [e]) (by intro a ha; simp at ha; omega) j
    have e1 : [i, i'].flatMap E = E i ++ E i' := by simp
    rw [e1, List.count_append] at p
    have := List.count_pos_iff.2 hj
    have := List.count_pos_iff.2 hj'
    omega
/-- the walk up by the last folder that has a name of each node -/
def gUp (A : Nat → Nat) : Nat → Nat → Bool
  | 0, j => decide (j = 0)
  | f + 1, j => decide (j = 0) || gUp A f (A j)
theorem gUp_zero (A : Nat → Nat) (f : Nat) : gUp A f 0 = true := by cases f <;> rfl
theorem gUp_yes {A : Nat → Nat} (hA : ∀ j, 0 < gCnt E n j → A j < n ∧ j ∈ E (A j)) (hE : ∀ i, n ≤ i → E i = []) (hF : ∀ i j, j ∈ E i → F i = true)
    (h1 : ∀ j, F j = true → 0 < j → j < n → gCnt E n j = 1) (hn : ∀ i j, j ∈ E i → j < n) {k j : Nat} (h : GUp E k j) : ∀ f, F j = true → k ≤ f → gUp A f j = true := by
  induction h with
  | top => intro f _ _; exact gUp_zero A f
  | @step i j k hm hu ih =>
    intro f hj hk
    obtain ⟨f, rfl⟩ : ∃ m, f = m + 1 := ⟨f - 1, by omega⟩
    unfold gUp
    by_cases z : j = 0
    · simp [z]
    · have hi : i < n := by
        by_cases c : i < n
        · exact c
        · rw [hE i (by omega)] at hm; cases hm
      have e := h1 j hj (by omega) (hn i j hm)
      obtain ⟨a, b⟩ := hA j (by omega)
      have : A j = i := gUniq E n e a hi b hm
      rw [this, ih f (hF i j hm) (by omega)]
      simp
theorem gUp_no {A : Nat → Nat} (hA : ∀ j, 0 < gCnt E n j → A j < n ∧ j ∈ E (A j)) (hF : ∀ i j, j ∈ E i → F i = true)
    (h1 : ∀ j, F j = true → 0 < j → j < n → gCnt E n j = 1) : ∀ (f j : Nat), F j = true → j < n → gUp A f j = true → ∃ k, GUp E k j := by
  intro f
  induction f with
  | zero => intro j _ _ h; have : j = 0 := by simpa [gUp] using h
            subst this; exact ⟨0, .top⟩
  | succ f ih =>
    intro j hj hjn h
    unfold gUp at h
    by_cases z : j = 0
    · subst z; exact ⟨0, .top⟩
    · have e := h1 j hj (by omega) hjn
      obtain ⟨a, b⟩ := hA j (by omega)
      simp [z] at h
      obtain ⟨k, hk⟩ := ih (A j) (hF _ j b) a h
      exact ⟨k + 1, .step b hk⟩
end Graph
/-! ### FsOk of the program: the tests of one node -/
theorem fin_eq (a b c : Int) : impl_in.f a b c = some (decide (b ≤ a ∧ a ≤ c)) := by
  unfold impl_in.f
  by_cases h : a ≥ b <;> simp [h]
def nmFine (s : ByteArray) : Bool := decide ((1 : Int) ≤ s.size ∧ (s.size : Int) ≤ 3) && NM.nmAll s 0 s.size
theorem name_impl (s : ByteArray) : NM.impl_nameOk.f s = some (nmFine s) := rfl
def plainB (z : S34) : Bool := (impl_Inode_zero.f z.f0 z.f1 z.f2 z.f3 z.f4 z.f5 z.f6 z.f7 z.f8).getD false
theorem plain_impl (z : S34) : impl_Inode_zero.f z.f0 z.f1 z.f2 z.f3 z.f4 z.f5 z.f6 z.f7 z.f8 = some (plainB z) := by
  unfold plainB impl_Inode_zero.f
  repeat' split
  all_goals rfl
theorem plain_len {z : S34} (h : plainB z = true) : z.f8 = [] := by
  unfold plainB impl_Inode_zero.f at h
  by_cases c : (z.f8.length : Int) == 0
  · have : z.f8.length = 0 := by have := eq_of_beq c; omega
    exact List.eq_nil_of_length_eq_zero this
  · exfalso
    have e : ((z.f8.length : Int) == 0) = false := by simpa using c
    rw [e] at h
    revert h
    repeat' split
    all_goals (intro h; cases h)
def nodeA (z : S34) : Bool := decide (1 ≤ z.f0 ∧ z.f0 ≤ 2) && (decide (0 ≤ z.f1 ∧ z.f1 ≤ 511) && (decide (0 ≤ z.f2 ∧ z.f2 ≤ 9) && (decide (0 ≤ z.f3 ∧ z.f3 ≤ 9) && decide (0 ≤ z.f5 ∧ z.f5 ≤ 99))))
def nodeB (z : S34) : Bool := if z.f0 = 1 then decide (z.f7.size ≤ 40) && decide (z.f8.length = 0) else (decide (z.f7.toList = ([] : List UInt8)) && (!z.f6 && decide (z.f8.length ≤ 6)))

def entC (es : List S47) (j : Nat) : Bool := nmFine (rd_T47 es (j : Int)).f0 && (decide (j = 0) || Op.bytesLess (rd_T47 es ((j : Int) - 1)).f0.toList (rd_T47 es (j : Int)).f0.toList)
/-! ### the loops over nodes and entries: links are counted, and the last folder that has a name is kept -/
def nd (ns : List S34) (i : Nat) : S34 := rd_T34 ns (i : Int)
def bumpE (xs : List Int) : List S47 → List Int
  | [] => xs
  | e :: es => bumpE (xs.set e.f1.toNat (wrap64 (rd xs e.f1 + 1))) es
def markE (xs : List Int) (v : Int) : List S47 → List Int
  | [] => xs
  | e :: es => markE (xs.set e.f1.toNat v) v es
theorem bumpE_len (es : List S47) : ∀ xs : List Int, (bumpE xs es).length = xs.length := by
  induction es with
  | nil => intro xs; rfl
  | cons e es ih => intro xs; unfold bumpE; rw [ih, List.length_set]
theorem markE_len (v : Int) (es : List S47) : ∀ xs : List Int, (markE xs v es).length = xs.length := by
  induction es with
  | nil => intro xs; rfl
  | cons e es ih => intro xs; unfold markE; rw [ih, List.length_set]
theorem drop_rd {es : List S47} {j : Nat} (h : j < es.length) : es.drop j = rd_T47 es (j : Int) :: es.drop (j + 1) := by
  rw [List.drop_eq_getElem_cons h]
  congr 1
  unfold rd_T47
  rw [List.getD_eq_getElem?_getD, show ((j : Int)).toNat = j by omega, List.getElem?_eq_getElem h]; rfl
def entI (ns : List S34) (es : List S47) (j : Nat) : Bool := entC es j && (decide (0 ≤ (rd_T47 es (j : Int)).f1 ∧ (rd_T47 es (j : Int)).f1 ≤ 9) && decide ((rd_T34 ns (rd_T47 es (j : Int)).f1).f0 ≠ 0))
def entIF (ns : List S34) (es : List S47) (j : Nat) : Nat → Bool
  | 0 => true
  | d + 1 => entI ns es j && entIF ns es (j + 1) d
theorem impl_ents (ns : List S34) (hns : ns.length = 10) (i : Nat) (z : S34) (hl : z.f8.length ≤ 1048576) (m : Nat) (d : Nat) : ∀ (j : Nat) (x3 x4 : List Int), j + d = z.f8.length → x3.length = 10 → x4.length = 10 →
    impl_FsOk.l1 (m + 2 * d + 1) x3 x4 (i : Int) ns 10 (i : Int) z.f8 (z.f8.length : Int) (j : Int) ns z.f0 z.f1 z.f2 z.f3 z.f4 z.f5 z.f6 z.f7 z.f8 = if entIF ns z.f8 j d = true then impl_FsOk.l0 (m + 0) (bumpE x3 (z.f8.drop j)) (markE x4 (i : Int) (z.f8.drop j)) ns 10 (wrap64 ((i : Int) + 1)) ns else some false := by
  induction d with
  | zero =>
    intro j x3 x4 hj h3 h4
    rw [impl_FsOk.l1, if_neg (by omega), List.drop_eq_nil_of_le (by omega)]
    rfl
  | succ d ih =>
    intro j x3 x4 hj h3 h4
    have w : wrap64 ((j : Int) + 1) = ((j + 1 : Nat) : Int) := wsucc (show j < z.f8.length by omega) (by omega)
    have w' : wrap64 ((j : Int) - 1) = (j : Int) - 1 := w64 (by clear w; omega) (by clear w; omega)
    rw [drop_rd (show j < z.f8.length by clear w w'; omega)]
    have e := ih (j + 1) (x3.set (rd_T47 z.f8 (j : Int)).f1.toNat (wrap64 (rd x3 (rd_T47 z.f8 (j : Int)).f1 + 1))) (x4.set (rd_T47 z.f8 (j : Int)).f1.toNat (i : Int)) (by clear w w'; omega) (by rw [List.length_set]; exact h3) (by rw [List.length_set]; exact h4)
    rw [show m + 2 * (d + 1) + 1 = m + 2 * d + 1 + 1 + 1 by clear w w'; omega, impl_FsOk.l1, if_pos (by clear w w'; omega), if_pos (by clear w w'; omega), if_pos (by clear w w'; omega), name_impl]
    unfold bumpE markE
    generalize hE : rd_T47 z.f8 (j : Int) = E at e ⊢
    have jj : ∀ b a0, 0 ≤ E.f1 → E.f1 ≤ 9 → impl_FsOk.j5 (m + 2 * d + 1 + 1) x3 x4 (i : Int) ns 10 (i : Int) z.f8 (z.f8.length : Int) (j : Int) b ns z.f0 z.f1 z.f2 z.f3 z.f4 z.f5 z.f6 z.f7 z.f8 a0 E.f1 = if (!b && entIF ns z.f8 (j + 1) d) = true then impl_FsOk.l0 (m + 0) (bumpE (x3.set E.f1.toNat (wrap64 (rd x3 E.f1 + 1))) (z.f8.drop (j + 1))) (markE (x4.set E.f1.toNat (i : Int)) (i : Int) (z.f8.drop (j + 1))) ns 10 (wrap64 ((i : Int) + 1)) ns else some false := by
      intro b a0 g0 g1
      rw [impl_FsOk.j5]
      cases b with
      | true => rfl
      | false =>
        rw [if_neg (by decide), if_pos g0, if_pos (by clear w w'; omega), if_pos (by clear w w'; omega), w, e]
        simp
    have jt : ∀ a0 a1, impl_FsOk.j5 (m + 2 * d + 1 + 1) x3 x4 (i : Int) ns 10 (i : Int) z.f8 (z.f8.length : Int) (j : Int) true ns z.f0 z.f1 z.f2 z.f3 z.f4 z.f5 z.f6 z.f7 z.f8 a0 a1 = some false := by
      intro a0 a1
      rw [impl_FsOk.j5]; rfl
    clear e ih
    simp only [fin_eq, Option.bind_some, entIF, entI, entC, w', hE]
    clear w w'
    cases hf : nmFine E.f0 with
    | false => rw [if_neg (by decide), jt]; simp
    | true =>
      rw [if_pos rfl]
      by_cases c1 : 0 ≤ E.f1 ∧ E.f1 ≤ 9
      · have p0 : 0 ≤ E.f1 := c1.1
        have p1 : E.f1 < (ns.length : Int) := by omega
        rw [if_pos (decide_eq_true c1), if_pos p0, if_pos p1]
        by_cases c2 : (rd_T34 ns E.f1).f0 = 0
        · rw [if_pos c2, jt]; simp [c2]
        · rw [if_neg c2]
          by_cases c3 : j = 0
          · rw [if_neg (by omega), jj _ _ c1.1 c1.2]
            simp [c1, c2, c3]
          · rw [if_pos (by omega), if_pos (by omega), if_pos (by omega), jj _ _ c1.1 c1.2]
            simp [c1, c2, c3]
      · rw [if_neg (by simpa using c1), jt]
        simp [c1]
def okI (ns : List S34) (i : Nat) : Bool := if (nd ns i).f0 = 0 then plainB (nd ns i) else nodeA (nd ns i) && (nodeB (nd ns i) && entIF ns (nd ns i).f8 0 (nd ns i).f8.length)
theorem impl_node (ns : List S34) (hns : ns.length = 10) (i : Nat) (hi : i < 10) (hl : (nd ns i).f8.length ≤ 1048576) (m : Nat) (x3 x4 : List Int) (h3 : x3.length = 10) (h4 : x4.length = 10) :
    ∃ m', m ≤ m' ∧ impl_FsOk.l0 (m + 2 * (nd ns i).f8.length + 4) x3 x4 ns 10 (i : Int) ns = if okI ns i = true then impl_FsOk.l0 m' (bumpE x3 (nd ns i).f8) (markE x4 (i : Int) (nd ns i).f8) ns 10 ((i + 1 : Nat) : Int) ns else some false := by
  have w : wrap64 ((i : Int) + 1) = ((i + 1 : Nat) : Int) := wsucc hi (by omega)
  have e := impl_ents ns hns i (nd ns i) hl m (nd ns i).f8.length 0 x3 x4 (by omega) h3 h4
  rw [w] at e
  have eq0 : rd_T34 ns (i : Int) = nd ns i := rfl
  by_cases c : (nd ns i).f0 = 0
  · refine ⟨m + 2 * (nd ns i).f8.length + 3, by clear w; omega, ?_⟩
    rw [show m + 2 * (nd ns i).f8.length + 4 = m + 2 * (nd ns i).f8.length + 3 + 1 from rfl, impl_FsOk.l0, if_pos (by clear w; omega), if_pos (by clear w; omega), if_pos (by clear w; omega), eq0, if_pos c, plain_impl, Option.bind_some, w]
    unfold okI
    rw [if_pos c]
    by_cases p : plainB (nd ns i) = true
    · rw [if_pos p, if_pos p, plain_len p]; rfl
    · rw [if_neg p, if_neg p]
  · refine ⟨m + 0, by clear w; omega, ?_⟩
    rw [show m + 2 * (nd ns i).f8.length + 4 = m + 2 * (nd ns i).f8.length + 1 + 1 + 1 + 1 from rfl, impl_FsOk.l0, if_pos (by clear w; omega), if_pos (by clear w; omega), if_pos (by clear w; omega), eq0, if_neg c]
    clear w
    generalize hz : nd ns i = z at *
    have j3 : ∀ b, impl_FsOk.j3 (m + 2 * z.f8.length + 1 + 1) x3 x4 (i : Int) ns 10 (i : Int) b ns z.f0 z.f1 z.f2 z.f3 z.f4 z.f5 z.f6 z.f7 z.f8 = if (!b && entIF ns z.f8 0 z.f8.length) = true then impl_FsOk.l0 (m + 0) (bumpE x3 z.f8) (markE x4 (i : Int) z.f8) ns 10 ((i + 1 : Nat) : Int) ns else some false := by
      intro b
      rw [impl_FsOk.j3]
      cases b with
      | true => rfl
      | false => rw [if_neg (by decide)]; simpa using e
    have j2 : ∀ b, 1 ≤ z.f0 ∧ z.f0 ≤ 2 → impl_FsOk.j2 (m + 2 * z.f8.length + 1 + 1 + 1) x3 x4 (i : Int) ns 10 (i : Int) b ns z.f0 z.f1 z.f2 z.f3 z.f4 z.f5 z.f6 z.f7 z.f8 = if (!b && (nodeB z && entIF ns z.f8 0 z.f8.length)) = true then impl_FsOk.l0 (m + 0) (bumpE x3 z.f8) (markE x4 (i : Int) z.f8) ns 10 ((i + 1 : Nat) : Int) ns else some false := by
      intro b c0
      rw [impl_FsOk.j2]
      cases b with
      | true => rfl
      | false =>
        rw [if_neg (by decide)]
        simp only [j3]
        unfold nodeB
        by_cases d3 : z.f0 = 1
        · by_cases d4 : (z.f7.size : Int) > 40
          · have : ¬ z.f7.size ≤ 40 := by omega
            simp [d3, d4, this]
          · have : z.f7.size ≤ 40 := by omega
            by_cases d5 : z.f8.length = 0
            · simp [d3, d4, this, d5]
            · have d6 : 0 < z.f8.length := by omega
              simp [d3, d4, this, d5, d6]
        · have d2 : z.f0 = 2 := by omega
          by_cases d6 : z.f7.toList = ([] : List UInt8)
          · by_cases d8 : z.f8.length ≤ 6
            · have d9 : ¬ (z.f8.length : Int) > 6 := by omega
              cases z.f6 <;> simp [d2, d6, d8, d9]
            · have d9 : (z.f8.length : Int) > 6 := by omega
              cases z.f6 <;> simp [d2, d6, d8, d9]
          · simp [d2, d6]
    have j2t : impl_FsOk.j2 (m + 2 * z.f8.length + 1 + 1 + 1) x3 x4 (i : Int) ns 10 (i : Int) true ns z.f0 z.f1 z.f2 z.f3 z.f4 z.f5 z.f6 z.f7 z.f8 = some false := by
      rw [impl_FsOk.j2]; rfl
    unfold okI nodeA
    simp only [hz]
    rw [if_neg c]
    simp only [fin_eq, Option.bind_some]
    by_cases c0 : 1 ≤ z.f0 ∧ z.f0 ≤ 2
    · simp only [j2 _ c0]
      by_cases c1 : 0 ≤ z.f1 ∧ z.f1 ≤ 511
      · by_cases c2 : 0 ≤ z.f2 ∧ z.f2 ≤ 9
        · by_cases c3 : 0 ≤ z.f3 ∧ z.f3 ≤ 9
          · by_cases c4 : 0 ≤ z.f5 ∧ z.f5 ≤ 99
            · simp [c0, c1, c2, c3, c4]
            · simp [c0, c1, c2, c3, c4]
          · simp [c0, c1, c2, c3]
        · simp [c0, c1, c2]
      · simp [c0, c1]
    · rw [if_neg (by simpa using c0), j2t]
      simp [c0]
def okIF (ns : List S34) (i : Nat) : Nat → Bool
  | 0 => true
  | d + 1 => okI ns i && okIF ns (i + 1) d
def bumpF (ns : List S34) (xs : List Int) (i : Nat) : Nat → List Int
  | 0 => xs
  | d + 1 => bumpF ns (bumpE xs (nd ns i).f8) (i + 1) d
def markF (ns : List S34) (xs : List Int) (i : Nat) : Nat → List Int
  | 0 => xs
  | d + 1 => markF ns (markE xs (i : Int) (nd ns i).f8) (i + 1) d
theorem impl_nodes (ns : List S34) (hns : ns.length = 10) (hl : ∀ i, i < 10 → (nd ns i).f8.length ≤ 1048576) (d : Nat) : ∀ (i k : Nat) (x3 x4 : List Int), i + d = 10 → 3000000 * (d + 1) ≤ k → x3.length = 10 → x4.length = 10 →
    ∃ m', 2000000 ≤ m' ∧ impl_FsOk.l0 k x3 x4 ns 10 (i : Int) ns = if okIF ns i d = true then impl_FsOk.l2 m' (bumpF ns x3 i d) (markF ns x4 i d) ns 10 0 else some false := by
  induction d with
  | zero =>
    intro i k x3 x4 hi hk h3 h4
    obtain ⟨k, rfl⟩ : ∃ m, k = m + 1 := ⟨k - 1, by omega⟩
    refine ⟨k, by omega, ?_⟩
    rw [impl_FsOk.l0, if_neg (by omega), hns]
    rfl
  | succ d ih =>
    intro i k x3 x4 hi hk h3 h4
    have hli := hl i (by omega)
    obtain ⟨m, rfl⟩ : ∃ m, k = m + 2 * (nd ns i).f8.length + 4 := ⟨k - 2 * (nd ns i).f8.length - 4, by omega⟩
    obtain ⟨m', g1, g2⟩ := impl_node ns hns i (by omega) hli m x3 x4 h3 h4
    obtain ⟨m2, g3, g4⟩ := ih (i + 1) m' (bumpE x3 (nd ns i).f8) (markE x4 (i : Int) (nd ns i).f8) (by omega) (by omega) (by rw [bumpE_len]; exact h3) (by rw [markE_len]; exact h4)
    refine ⟨m2, g3, ?_⟩
    rw [g2, g4]
    show _ = if (okI ns i && okIF ns (i + 1) d) = true then impl_FsOk.l2 m2 (bumpF ns (bumpE x3 (nd ns i).f8) (i + 1) d) (markF ns (markE x4 (i : Int) (nd ns i).f8) (i + 1) d) ns 10 0 else some false
    cases okI ns i <;> simp
/-! ### FsOk of the program: the last loop, with the walk up -/
def upA (x4 : List Int) (j : Nat) : Nat := (rd x4 (j : Int)).toNat
theorem impl_up (ns : List S34) (x3 x4 : List Int) (h4 : x4.length = 10) (hA : ∀ j : Nat, j < 10 → 0 ≤ rd x4 (j : Int) ∧ rd x4 (j : Int) < 10) (i : Nat) (m : Nat) (f : Nat) : ∀ (j s : Nat), j < 10 → s + f = 11 →
    ∃ m', m ≤ m' ∧ impl_FsOk.l3 (m + f + 1) x3 x4 (j : Int) (s : Int) ns 10 (i : Int) = if gUp (upA x4) f j = true then impl_FsOk.l2 m' x3 x4 ns 10 (wrap64 ((i : Int) + 1)) else some false := by
  induction f with
  | zero =>
    intro j s hj hs
    refine ⟨m, by omega, ?_⟩
    rw [impl_FsOk.l3]
    by_cases c : j = 0
    · subst c; simp [gUp]
    · rw [if_neg (by omega), if_pos (by omega)]; simp [gUp, c]
  | succ f ih =>
    intro j s hj hs
    obtain ⟨a, b⟩ := hA j hj
    by_cases c : j = 0
    · subst c
      refine ⟨m + (f + 1), by omega, ?_⟩
      rw [impl_FsOk.l3]; simp [gUp]
    · obtain ⟨m', g1, g2⟩ := ih (upA x4 j) (s + 1) (by unfold upA; omega) (by omega)
      refine ⟨m', g1, ?_⟩
      rw [impl_FsOk.l3, if_neg (by omega), if_neg (by omega), if_pos (by omega), if_pos (by omega), w64 (n := (s : Int) + 1) (by omega) (by omega)]
      have e : ((upA x4 j : Nat) : Int) = rd x4 (j : Int) := by unfold upA; omega
      rw [e, show ((s + 1 : Nat) : Int) = (s : Int) + 1 by omega, show m + f + 1 = m + (f + 1) by omega] at g2
      rw [g2]
      simp [gUp, c]
def condI (ns : List S34) (x3 x4 : List Int) (j : Nat) : Bool := if (nd ns j).f0 = 0 then true else decide ((nd ns j).f4 = rd x3 (j : Int)) && (!(decide ((nd ns j).f0 = 1) && (decide ((nd ns j).f4 = 0) && decide ((nd ns j).f5 = 0))) && (!(decide ((nd ns j).f0 = 2) && (decide (0 < j) && decide ((nd ns j).f4 ≠ 1))) && (!(decide (j = 0) && decide ((nd ns j).f4 ≠ 0)) && (decide ((nd ns j).f0 ≠ 2) || gUp (upA x4) 11 j))))
def condIF (ns : List S34) (x3 x4 : List Int) (i : Nat) : Nat → Bool
  | 0 => true
  | d + 1 => condI ns x3 x4 i && condIF ns x3 x4 (i + 1) d
theorem impl_ways (ns : List S34) (x3 x4 : List Int) (hns : ns.length = 10) (h3 : x3.length = 10) (h4 : x4.length = 10) (hA : ∀ j : Nat, j < 10 → 0 ≤ rd x4 (j : Int) ∧ rd x4 (j : Int) < 10) (d : Nat) : ∀ (i k : Nat), i + d = 10 → 20 * (d + 1) ≤ k →
    impl_FsOk.l2 k x3 x4 ns 10 (i : Int) = some (condIF ns x3 x4 i d) := by
  induction d with
  | zero =>
    intro i k hi hk
    obtain ⟨k, rfl⟩ : ∃ m, k = m + 1 := ⟨k - 1, by omega⟩
    rw [impl_FsOk.l2, if_neg (by omega)]; rfl
  | succ d ih =>
    intro i k hi hk
    obtain ⟨m, rfl⟩ : ∃ m, k = m + 11 + 1 + 1 + 1 := ⟨k - 14, by omega⟩
    have w : wrap64 ((i : Int) + 1) = ((i + 1 : Nat) : Int) := wsucc (show i < 10 by omega) (by omega)
    have nx : ∀ k, m ≤ k → impl_FsOk.l2 k x3 x4 ns 10 (wrap64 ((i : Int) + 1)) = some (condIF ns x3 x4 (i + 1) d) := by
      intro k g; rw [w]; exact ih (i + 1) k (by clear w; omega) (by clear w; omega)
    obtain ⟨m', g1, g2⟩ := impl_up ns x3 x4 h4 hA i m 11 i 0 (by clear w; omega) rfl
    rw [nx m' g1] at g2
    clear w ih
    have eq0 : rd_T34 ns (i : Int) = nd ns i := rfl
    rw [impl_FsOk.l2, if_pos (by omega), if_pos (by omega), if_pos (by omega), eq0, if_pos (c := (i : Int) < (x3.length : Int)) (by omega), nx _ (by omega)]
    rw [show condIF ns x3 x4 i (d + 1) = (condI ns x3 x4 i && condIF ns x3 x4 (i + 1) d) from rfl]
    unfold condI
    generalize nd ns i = z
    generalize gUp (upA x4) 11 i = G at g2 ⊢
    generalize condIF ns x3 x4 (i + 1) d = C at nx g2 ⊢
    have j7 : ∀ b, impl_FsOk.j7 (m + 11 + 1 + 1) x3 x4 (i : Int) ns 10 (i : Int) b z.f0 z.f1 z.f2 z.f3 z.f4 z.f5 z.f6 z.f7 z.f8 = some (!b && ((decide (z.f0 ≠ 2) || G) && C)) := by
      intro b
      rw [impl_FsOk.j7]
      cases b with
      | true => rfl
      | false =>
        rw [if_neg (by decide), nx _ (by omega)]
        by_cases c : z.f0 = 2
        · rw [if_pos c]
          refine g2.trans ?_
          cases G <;> simp [c]
        · rw [if_neg c]; simp [c]
    simp only [j7]
    clear j7 nx g2 hA
    generalize rd x3 (i : Int) = L
    by_cases c0 : z.f0 = 0
    · simp [c0]
    · by_cases c1 : z.f4 = L
      · by_cases c2 : z.f0 = 1
        · by_cases c3 : z.f4 = 0
          · by_cases c4 : z.f5 = 0
            · simp [c2, c3, c4, ← c1]
            · by_cases c5 : i = 0
              · simp [c2, c3, c4, c5, ← c1]
              · simp [c2, c3, c4, c5, ← c1]
          · by_cases c5 : i = 0
            · simp [c2, c3, c5, ← c1]
            · simp [c2, c3, c5, ← c1]
        · by_cases c3 : z.f0 = 2
          · by_cases c5 : i = 0
            · by_cases c6 : z.f4 = 0
              · simp [c3, c5, c6, ← c1]
              · simp [c3, c5, c6, ← c1]
            · have c7 : 0 < i := by omega
              by_cases c6 : z.f4 = 1
              · simp [c3, c5, c6, c7, ← c1]
              · simp [c3, c5, c6, c7, ← c1]
          · by_cases c5 : i = 0
            · by_cases c6 : z.f4 = 0
              · simp [c0, c2, c3, c5, c6, ← c1]
              · simp [c0, c2, c3, c5, c6, ← c1]
            · simp [c0, c2, c3, c5, ← c1]
      · simp [c0, c1]

def frs (o m : Int) : List S34 := [⟨2, m, o, o, 0, 0, false, (⟨#[]⟩ : ByteArray), []⟩, z34, z34, z34, z34, z34, z34, z34, z34, z34]
theorem fsin_eq (a b c : Int) : spec_l6In.f a b c = some (decide (b ≤ a ∧ a ≤ c)) := by
  unfold spec_l6In.f
  by_cases h : a ≥ b <;> simp [h]
theorem new_impl (o m : Int) : impl_FsNew.f o m = some (if (0 ≤ o ∧ o ≤ 9) ∧ (0 ≤ m ∧ m ≤ 511) then (frs o m, true) else ([], false)) := by
  unfold impl_FsNew.f
  simp only [fin_eq, Option.bind_some]
  by_cases c1 : 0 ≤ o ∧ o ≤ 9
  · by_cases c2 : 0 ≤ m ∧ m ≤ 511
    · rw [if_pos (decide_eq_true c1), if_pos (decide_eq_true c2), if_pos (by decide), if_pos (by decide), if_pos ⟨c1, c2⟩]; rfl
    · rw [if_pos (decide_eq_true c1), if_neg (by simpa using c2), if_neg (fun h => c2 h.2)]
  · rw [if_neg (by simpa using c1), if_neg (fun h => c1 h.1)]
theorem new_spec (o m : Int) : spec_FsNew.f o m = some (if (0 ≤ o ∧ o ≤ 9) ∧ (0 ≤ m ∧ m ≤ 511) then (frs o m, true) else ([], false)) := by
  unfold spec_FsNew.f spec_l5User.f
  simp only [fsin_eq, Option.bind_some]
  by_cases c1 : 0 ≤ o ∧ o ≤ 9
  · by_cases c2 : 0 ≤ m ∧ m ≤ 511
    · rw [if_pos (decide_eq_true c1), if_pos (decide_eq_true c2), if_pos (by decide), if_pos (by decide), if_pos ⟨c1, c2⟩]; rfl
    · rw [if_pos (decide_eq_true c1), if_neg (by simpa using c2), if_neg (fun h => c2 h.2)]
  · rw [if_neg (by simpa using c1), if_neg (fun h => c1 h.1)]
theorem qdInode_ok (z : S34) (h : z.f8 = []) (k : Nat) : laws_qdInode.f (k + 2) z.f0 z.f1 z.f2 z.f3 z.f4 z.f5 z.f6 z.f7 z.f8 z.f0 z.f1 z.f2 z.f3 z.f4 z.f5 z.f6 z.f7 z.f8 = some true := by
  unfold laws_qdInode.f
  rw [if_pos rfl, if_pos rfl, if_pos rfl, if_pos rfl, if_pos rfl, if_pos rfl, if_neg (by simp), if_pos rfl, h, laws_qdInode.j0]
  rfl
theorem qdFs_ok (l : List S34) (hl : l.length ≤ 10) (h : ∀ i : Nat, (nd l i).f8 = []) {k : Nat} (hk : 20 ≤ k) : laws_qdFs.f k l l = some true := by
  unfold laws_qdFs.f
  rw [if_pos rfl]
  refine eq_gen (l0 := fun k i => laws_qdFs.l0 k i l l) l.length 2 ?_ ?_ k (by omega)
  · intro k i hi hK
    obtain ⟨k, rfl⟩ : ∃ m, k = m + 2 := ⟨k - 2, by omega⟩
    show laws_qdFs.l0 (k + 2 + 1) (i : Int) l l = _
    rw [laws_qdFs.l0, if_pos (by omega), if_pos (by omega), if_pos (by omega), qdInode_ok (rd_T34 l (i : Int)) (h i), Option.bind_some, if_pos rfl, wsucc hi (by omega)]
  · intro k
    show laws_qdFs.l0 (k + 1) (l.length : Int) l l = _
    rw [laws_qdFs.l0, if_neg (by omega)]
theorem frs_nd (o m : Int) (i : Nat) : (nd (frs o m) i).f8 = [] := by
  unfold nd rd_T34 frs
  rw [show ((i : Int)).toNat = i by omega]
  rcases i with _ | _ | _ | _ | _ | _ | _ | _ | _ | _ | i <;> first | rfl | (simp; rfl)
theorem frs_ok (o m : Int) (h1 : 0 ≤ o ∧ o ≤ 9) (h2 : 0 ≤ m ∧ m ≤ 511) {k : Nat} (hk : 40000000 ≤ k) : impl_FsOk.f k (frs o m) = some true := by
  obtain ⟨k, rfl⟩ : ∃ m, k = m + 1 := ⟨k - 1, by omega⟩
  obtain ⟨m', g1, g2⟩ := impl_nodes (frs o m) rfl (fun i _ => by rw [frs_nd]; exact Nat.zero_le _) 10 0 k (List.replicate 10 0) (List.replicate 10 0) rfl (by omega) rfl rfl
  have e7 : (⟨#[]⟩ : ByteArray).toList = ([] : List UInt8) := toList_nil.2 rfl
  have k0 : okI (frs o m) 0 = true := by
    have e : nd (frs o m) 0 = ⟨2, m, o, o, 0, 0, false, (⟨#[]⟩ : ByteArray), []⟩ := rfl
    unfold okI nodeA nodeB
    simp only [e, e7, decide_eq_true h1, decide_eq_true h2]
    rfl
  have ki : ∀ i : Nat, okI (frs o m) (i + 1) = true := by
    intro i
    have e : nd (frs o m) (i + 1) = z34 := by
      unfold nd rd_T34 frs
      rw [show (((i + 1 : Nat) : Int)).toNat = i + 1 by omega]
      rcases i with _ | _ | _ | _ | _ | _ | _ | _ | _ | i <;> first | rfl | (simp; done)
    unfold okI plainB impl_Inode_zero.f
    simp [e, z34, e7]
  have ok : okIF (frs o m) 0 10 = true := by
    simp only [okIF, k0, ki, Bool.true_and]
  rw [if_pos ok] at g2
  have w := impl_ways (frs o m) (List.replicate 10 0) (List.replicate 10 0) rfl rfl rfl (by
    intro j hj
    unfold rd
    rw [show ((j : Int)).toNat = j by omega, List.getD_eq_getElem?_getD, List.getElem?_replicate, if_pos hj]
    decide) 10 0 m' rfl (by omega)
  unfold impl_FsOk.f
  have e0 : rd_T34 (frs o m) 0 = ⟨2, m, o, o, 0, 0, false, (⟨#[]⟩ : ByteArray), []⟩ := rfl
  have el : ((frs o m).length : Int) = 10 := rfl
  rw [el, if_pos rfl, if_pos (by decide), impl_FsOk.j0, e0, if_neg (by simp), if_pos (by decide), el]
  exact g2.trans (w.trans rfl)
theorem FnFsNew : BdFnFsNew.Pure := by
  intro l0 ⟨_, hwf⟩
  obtain ⟨K, hK⟩ : ∃ K : Nat, 40000000 ≤ K := ⟨_, Nat.le_refl _⟩
  refine ⟨K, ?_⟩
  unfold laws_FnFsNew.f
  by_cases hl : (l0.length : Int) > 1048576
  · rw [if_pos hl]
  · rw [if_neg hl]
    have hd : ∃ o m, spec_DrawFsNew.f l0 = some (o, m) := by
      unfold spec_DrawFsNew.f
      obtain ⟨s, e1, hb, hs⟩ := open_ok (bytes_of_wf hwf)
      obtain ⟨v, e2, _⟩ := pick_ok hb hs (p := 0) (by omega) (by omega) 11
      obtain ⟨m, p, e3, _⟩ := mode_ok hb hs (p := 0 + 1) (by omega) (by omega)
      rw [e1]; simp only [Option.bind_some]
      rw [e2]; simp only [Option.bind_some]
      rw [e3]; simp only [Option.bind_some]
      exact ⟨_, _, rfl⟩
    obtain ⟨o, m, hd⟩ := hd
    rw [hd]; simp only [Option.bind_some, new_impl, new_spec]
    by_cases c : (0 ≤ o ∧ o ≤ 9) ∧ (0 ≤ m ∧ m ≤ 511)
    · rw [if_pos c]
      simp only
      have e0 : rd_T34 (frs o m) 0 = ⟨2, m, o, o, 0, 0, false, (⟨#[]⟩ : ByteArray), []⟩ := rfl
      have el : ((frs o m).length : Int) = 10 := rfl
      rw [qdFs_ok (frs o m) (Nat.le_refl 10) (frs_nd o m) (by omega), Option.bind_some, frs_ok o m c.1 c.2 (by omega), Option.bind_some, el, e0]
      simp
    · rw [if_neg c]
      simp only
      rw [qdFs_ok [] (Nat.zero_le _) (fun _ => rfl) (by omega), Option.bind_some, if_pos rfl, if_pos (by decide)]
      rfl

end Go.Proofs.Ytpljcphiaajjaaa.Pure
