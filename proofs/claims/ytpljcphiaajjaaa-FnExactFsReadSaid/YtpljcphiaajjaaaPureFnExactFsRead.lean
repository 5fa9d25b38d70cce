/- The program's FsRead and the reference's answer alike at every file system and every three numbers. -/
import Derived.Test.YtpljcphiaajjaaaBdFnExactFsRead
import Derived.WideShapes
import Derived.IntWalk
import Derived.OpenShut
namespace Go.Proofs.Ytpljcphiaajjaaa.Pure
open Go.RowKit Go.Proofs.Ytpljcphiaajjaaa.XFnExactFsRead Go.Proofs.YtpljcphiaajjaaaW.PrintWords Go.Proofs.YtpljcphiaajjaaaW.PrintLast
/-! ### small facts on numbers, bytes and rounds -/
theorem w64 {n : Int} (h1 : -9223372036854775808 ≤ n) (h2 : n ≤ 9223372036854775807) : wrap64 n = n := by unfold wrap64; omega
theorem w64_range (n : Int) : -9223372036854775808 ≤ wrap64 n ∧ wrap64 n ≤ 9223372036854775807 := by unfold wrap64; omega
theorem xor_ok {x y : Int} (hx : 0 ≤ x) (hx2 : x < 4611686018427387904) (hy : 0 ≤ y) (hy2 : y < 4611686018427387904) : 0 ≤ Go.bits .xor .i64 x y ∧ Go.bits .xor .i64 x y < 4611686018427387904 := by
 have h1 : (BitVec.ofInt 64 x ^^^ BitVec.ofInt 64 y).toNat < 2 ^ 62 := by
  rw [BitVec.toNat_xor]
  apply Nat.xor_lt_two_pow
  ·rw [BitVec.toNat_ofInt]; omega
  ·rw [BitVec.toNat_ofInt]; omega
 have h2 : Go.bits .xor .i64 x y = ((BitVec.ofInt 64 x ^^^ BitVec.ofInt 64 y).toNat : Int) := by
  show IntKind.wrap .i64 ((BitVec.ofInt 64 x ^^^ BitVec.ofInt 64 y).toNat : Int) = _
  generalize (BitVec.ofInt 64 x ^^^ BitVec.ofInt 64 y).toNat = m at h1
  exact IntWalk.i64_in _ (by omega)
 rw [h2]; omega
theorem tmod_ok {x n : Int} (hx : 0 ≤ x) (hn : 1 ≤ n) : 0 ≤ Int.tmod x n ∧ Int.tmod x n < n := by
 rw [Int.tmod_eq_emod_of_nonneg hx]
 exact ⟨Int.emod_nonneg _ (by omega),Int.emod_lt_of_pos _ (by omega)⟩
theorem tdiv_ok {x n : Int} (hx : 0 ≤ x) (hn : 1 ≤ n) : 0 ≤ Int.tdiv x n ∧ Int.tdiv x n ≤ x := by
 rw [Int.tdiv_eq_ediv_of_nonneg hx]
 exact ⟨Int.ediv_nonneg hx (by omega),Int.ediv_le_self _ hx⟩
theorem rd_mem {xs : List Int} {i : Int} (h0 : 0 ≤ i) (h1 : i < (xs.length : Int)) : rd xs i ∈ xs := by
 have hl : i.toNat < xs.length := by omega
 unfold rd
 rw [List.getD_eq_getElem?_getD,List.getElem?_eq_getElem hl]
 exact List.getElem_mem hl
def Bytes (s : List Int) : Prop := ∀ x ∈ s,0 ≤ x ∧ x ≤ 255
theorem bytes_of_wf {s : List Int} (h : ∀ x ∈ s,(Lit.int .u8 x).wf = true) : Bytes s := fun x hx => Go.bounds_u8 (h x hx)
theorem bytes_rd {s : List Int} (h : Bytes s) {i : Int} (h0 : 0 ≤ i) (h1 : i < (s.length : Int)) : 0 ≤ rd s i ∧ rd s i ≤ 255 := h _ (rd_mem h0 h1)
theorem toList_inj {a b : ByteArray} : a.toList = b.toList ↔ a = b := by
 rw [ByteArray.toList_eq,ByteArray.toList_eq]
 constructor
 ·intro h; exact Go.WideShapes.bytes_inj h
 ·rintro rfl; rfl
theorem toList_nil {a : ByteArray} : a.toList = ([] : List UInt8) ↔ a.size = 0 := by
 rw [ByteArray.toList_eq,List.eq_nil_iff_length_eq_zero,data_length]
/-! ### rows that are copied, and rows that are held against themselves -/
theorem to_gen {β : Type} {l0 : Nat → List β → Int → Option (List β)} (xs : List β) (K : Nat)
  (hstep : ∀ (k : Nat) (acc : List β) (i : Nat) (hi : i < xs.length),K ≤ k → acc.length = xs.length → l0 (k + 1) acc (i : Int) = l0 k (acc.set i (xs[i]'hi)) ((i + 1 : Nat) : Int))
  (hend : ∀ (k : Nat) (acc : List β),l0 (k + 1) acc (xs.length : Int) = some acc) :
  ∀ (k : Nat) (acc : List β),acc.length = xs.length → xs.length + K < k → l0 k acc 0 = some xs := by
 have key : ∀ (d : Nat) (k : Nat) (acc : List β) (i : Nat),i + d = xs.length → d + K < k → acc.length = xs.length → (∀ j,j < i → acc[j]? = xs[j]?) → l0 k acc (i : Int) = some xs := by
  intro d
  induction d with
  | zero =>
   intro k acc i hd hk hl hj
   obtain ⟨k,rfl⟩ : ∃ m,k = m + 1 := ⟨k - 1,by omega⟩
   obtain rfl : i = xs.length := by omega
   rw [hend]
   congr 1
   apply List.ext_getElem?
   intro j
   by_cases h : j < xs.length
   ·exact hj j h
   ·rw [List.getElem?_eq_none (by omega),List.getElem?_eq_none (by omega)]
  | succ d ih =>
   intro k acc i hd hk hl hj
   obtain ⟨k,rfl⟩ : ∃ m,k = m + 1 := ⟨k - 1,by omega⟩
   have hi : i < xs.length := by omega
   rw [hstep k acc i hi (by omega) hl]
   refine ih k _ (i + 1) (by omega) (by omega) (by rw [List.length_set]; exact hl) (fun j hjl => ?_)
   by_cases e : j = i
   ·subst e
    rw [List.getElem?_set_self (by omega),List.getElem?_eq_getElem hi]
   ·rw [List.getElem?_set_ne (by omega)]
    exact hj j (by omega)
 intro k acc hl hk
 exact key xs.length k acc 0 (by omega) (by omega) hl (fun j hj => absurd hj (Nat.not_lt_zero j))
theorem eq_gen {l0 : Nat → Int → Option Bool} (n : Nat) (K : Nat)
  (hstep : ∀ (k : Nat) (i : Nat),i < n → K ≤ k → l0 (k + 1) (i : Int) = l0 k ((i + 1 : Nat) : Int)) (hend : ∀ (k : Nat),l0 (k + 1) (n : Int) = some true) :
  ∀ (k : Nat),n + K < k → l0 k 0 = some true := by
 have key : ∀ (d : Nat) (k : Nat) (i : Nat),i + d = n → d + K < k → l0 k (i : Int) = some true := by
  intro d
  induction d with
  | zero =>
   intro k i hd hk
   obtain ⟨k,rfl⟩ : ∃ m,k = m + 1 := ⟨k - 1,by omega⟩
   obtain rfl : i = n := by omega
   exact hend k
  | succ d ih =>
   intro k i hd hk
   obtain ⟨k,rfl⟩ : ∃ m,k = m + 1 := ⟨k - 1,by omega⟩
   rw [hstep k i (by omega) (by omega)]
   exact ih k (i + 1) (by omega) (by omega)
 intro k hk
 exact key n k 0 (by omega) (by omega)
theorem rd_get {l : List Int} {i : Nat} (h : i < l.length) : rd l (i : Int) = l[i] := by simp [rd,h]
theorem rdOf_get {α : Type} {z : α} {l : List α} {i : Nat} (h : i < l.length) : rdOf z l (i : Int) = l[i] := by simp [rdOf,h]
theorem wsucc {i n : Nat} (h : i < n) (hn : n ≤ 4611686018427387904) : wrap64 ((i : Int) + 1) = ((i + 1 : Nat) : Int) := by rw [w64 (by omega) (by omega)]; omega
/-! ### the folders of a file system: walked from node 0, each met once, against: one name each, and a way up to node 0 -/
section Graph
variable (E : Nat → List Nat) (F : Nat → Bool) (n : Nat)
def gKids (i : Nat) : List Nat := (E i).filter F
def gCnt (j : Nat) : Nat := ((List.range n).flatMap E).count j
/-- k steps up from j lead to node 0 -/
inductive GUp (E : Nat → List Nat) : Nat → Nat → Prop
 | top : GUp E 0 0
 | step {i j k : Nat} : j ∈ E i → GUp E k i → GUp E (k + 1) j
structure GInv (todo M : List Nat) : Prop where
 cnt : ∀ j,F j = true → todo.count j + M.count j = (if j = 0 then 1 else 0) + (M.flatMap E).count j
 inT : ∀ j ∈ todo,F j = true ∧ j < n ∧ ∃ k,k ≤ M.length ∧ GUp E k j
 inM : ∀ j ∈ M,F j = true ∧ j < n ∧ ∃ k,k < M.length ∧ GUp E k j
 nd : M.Nodup
theorem gInv_start (h0 : F 0 = true) (hn : 0 < n) : GInv E F n [0] [] where
 cnt := by intro j _; by_cases h : j = 0 <;> simp [h,List.count_cons] ; omega
 inT := by intro j hj; simp at hj; subst hj; exact ⟨h0,hn,0,Nat.le_refl _,.top⟩
 inM := by intro j hj; cases hj
 nd := List.nodup_nil
theorem gKids_count {j : Nat} (i : Nat) (h : F j = true) : (gKids E F i).count j = (E i).count j := by
 unfold gKids; rw [List.count_filter h]
theorem gInv_step {i : Nat} {rest M : List Nat} (hE : ∀ i j,i < n → j ∈ E i → j < n) (h : GInv E F n (i :: rest) M) (hi : i ∉ M) : GInv E F n (rest ++ gKids E F i) (M ++ [i]) where
 cnt := by
  intro j hj
  have := h.cnt j hj
  rw [List.count_append,List.count_append,List.flatMap_append,List.count_append,gKids_count E F i hj]
  rw [List.count_cons] at this
  rw [List.count_singleton]
  have e : [i].flatMap E = E i := by simp
  rw [e]
  omega
 inT := by
  intro j hj
  obtain ⟨a,b,k,c,d⟩ := h.inT i (by simp)
  rcases List.mem_append.1 hj with h1 | h1
  ·obtain ⟨a,b,k,c,d⟩ := h.inT j (by simp [h1])
   exact ⟨a,b,k,by simp; omega,d⟩
  ·unfold gKids at h1
   obtain ⟨h1,h2⟩ := List.mem_filter.1 h1
   exact ⟨h2,hE i j b h1,k + 1,by simp; omega,.step h1 d⟩
 inM := by
  intro j hj
  rcases List.mem_append.1 hj with h1 | h1
  ·obtain ⟨a,b,k,c,d⟩ := h.inM j h1
   exact ⟨a,b,k,by simp; omega,d⟩
  ·have : j = i := by simpa using h1
   subst this
   obtain ⟨a,b,k,c,d⟩ := h.inT j (by simp)
   exact ⟨a,b,k,by simp; omega,d⟩
 nd := by
  rw [List.nodup_append]
  refine ⟨h.nd,by simp,?_⟩
  intro a ha b hb
  have : b = i := by simpa using hb
  subst this
  rintro rfl
  exact hi ha
/-- what is met is a part of all -/
theorem gPart {M : List Nat} (nd : M.Nodup) (h : ∀ j ∈ M,j < n) : List.Perm (M ++ (List.range n).filter (fun j => decide (j ∉ M))) (List.range n) := by
 rw [List.perm_ext_iff_of_nodup]
 ·intro a
  simp only [List.mem_append,List.mem_filter,List.mem_range,decide_eq_true_eq]
  constructor
  ·rintro (h1 | h1)
   ·exact h a h1
   ·exact h1.1
  ·intro h1
   by_cases c : a ∈ M
   ·exact Or.inl c
   ·exact Or.inr ⟨h1,c⟩
 ·rw [List.nodup_append]
  refine ⟨nd,List.nodup_range.filter _,?_⟩
  intro a ha b hb
  rintro rfl
  simp at hb
  exact hb.2 ha
 ·exact List.nodup_range
theorem gPart_count {M : List Nat} (nd : M.Nodup) (h : ∀ j ∈ M,j < n) (j : Nat) : (M.flatMap E).count j + (((List.range n).filter (fun j => decide (j ∉ M))).flatMap E).count j = gCnt E n j := by
 unfold gCnt
 rw [← ((gPart n nd h).flatMap_right E).count_eq,List.flatMap_append,List.count_append]
theorem gPart_len {M : List Nat} (nd : M.Nodup) (h : ∀ j ∈ M,j < n) : M.length ≤ n := by
 have := (gPart n nd h).length_eq
 rw [List.length_append,List.length_range] at this
 omega
/-- where each folder has one name and node 0 none, no folder is met twice -/
theorem gOnce {i : Nat} {rest M : List Nat} (h : GInv E F n (i :: rest) M) (h0 : gCnt E n 0 = 0) (h1 : ∀ j,j < n → F j = true → 0 < j → gCnt E n j = 1) : i ∉ M := by
 intro hm
 obtain ⟨a,b,_⟩ := h.inT i (by simp)
 have e := h.cnt i a
 have p := gPart_count E n h.nd (fun j hj => (h.inM j hj).2.1) i
 have c1 : 1 ≤ (i :: rest).count i := List.count_pos_iff.2 (by simp)
 have c2 : 1 ≤ M.count i := List.count_pos_iff.2 hm
 by_cases z : i = 0
 ·subst z; rw [if_pos rfl] at e; omega
 ·rw [if_neg z] at e; have := h1 i b a (by omega); omega
/-- at the end all folders from which one comes up to node 0 were met -/
theorem gMet {M : List Nat} (h : GInv E F n [] M) (hF : ∀ i j,j ∈ E i → F i = true) {k j : Nat} (hu : GUp E k j) (hj : F j = true) : j ∈ M := by
 induction hu with
 | top =>
  have e := h.cnt 0 hj
  rw [if_pos rfl] at e
  simp at e
  exact List.count_pos_iff.1 (by omega)
 | @step i j k hm hu ih =>
  have hi := ih (hF i j hm)
  have e := h.cnt j hj
  simp at e
  have : 1 ≤ (M.flatMap E).count j := List.count_pos_iff.2 (List.mem_flatMap.2 ⟨i,hi,hm⟩)
  exact List.count_pos_iff.1 (by omega)
/-- at the end, where all folders were met, each but node 0 has one name -/
theorem gOne {M : List Nat} (h : GInv E F n [] M) (hF : ∀ i j,j ∈ E i → F i = true) (hall : ∀ j,j < n → F j = true → j ∈ M) {j : Nat} (hj : F j = true) (hjn : j < n) (hj0 : 0 < j) : gCnt E n j = 1 := by
 have p := gPart_count E n h.nd (fun j hj => (h.inM j hj).2.1) j
 have e := h.cnt j hj
 rw [if_neg (by omega)] at e
 have z : (((List.range n).filter (fun j => decide (j ∉ M))).flatMap E).count j = 0 := by
  rw [List.count_eq_zero]
  intro hm
  obtain ⟨i,h1,h2⟩ := List.mem_flatMap.1 hm
  simp at h1
  exact h1.2 (hall i h1.1 (hF i j h2))
 have m1 : M.count j = 1 := by
  have := List.count_pos_iff.2 (hall j hjn hj)
  have := List.nodup_iff_count.1 h.nd j
  omega
 simp at e
 omega
theorem gUp_of {M : List Nat} (h : GInv E F n [] M) {j : Nat} (hj : j ∈ M) : ∃ k,k < n ∧ GUp E k j := by
 obtain ⟨_,_,k,a,b⟩ := h.inM j hj
 have := gPart_len n h.nd (fun j hj => (h.inM j hj).2.1)
 exact ⟨k,by omega,b⟩
theorem gCnt_pos {j : Nat} : 0 < gCnt E n j ↔ ∃ i,i < n ∧ j ∈ E i := by
 unfold gCnt
 rw [List.count_pos_iff,List.mem_flatMap]
 simp
theorem gUniq {i i' j : Nat} (h : gCnt E n j = 1) (hi : i < n) (hi' : i' < n) (hj : j ∈ E i) (hj' : j ∈ E i') : i = i' := by
 by_cases e : i = i'
 ·exact e
 ·have p := gPart_count E n (M := [i,i']) (by simp [e]) (by intro a ha; simp at ha; omega) j
  have e1 : [i,i'].flatMap E = E i ++ E i' := by simp
  rw [e1,List.count_append] at p
  have := List.count_pos_iff.2 hj
  have := List.count_pos_iff.2 hj'
  omega
/-- the walk up by the last folder that has a name of each node -/
def gUp (A : Nat → Nat) : Nat → Nat → Bool
 | 0, j => decide (j = 0)
 | f + 1, j => decide (j = 0) || gUp A f (A j)
theorem gUp_zero (A : Nat → Nat) (f : Nat) : gUp A f 0 = true := by cases f <;> rfl
theorem gUp_yes {A : Nat → Nat} (hA : ∀ j,0 < gCnt E n j → A j < n ∧ j ∈ E (A j)) (hE : ∀ i,n ≤ i → E i = []) (hF : ∀ i j,j ∈ E i → F i = true)
  (h1 : ∀ j,F j = true → 0 < j → j < n → gCnt E n j = 1) (hn : ∀ i j,j ∈ E i → j < n) {k j : Nat} (h : GUp E k j) : ∀ f,F j = true → k ≤ f → gUp A f j = true := by
 induction h with
 | top => intro f _ _; exact gUp_zero A f
 | @step i j k hm hu ih =>
  intro f hj hk
  obtain ⟨f,rfl⟩ : ∃ m,f = m + 1 := ⟨f - 1,by omega⟩
  unfold gUp
  by_cases z : j = 0
  ·simp [z]
  ·have hi : i < n := by
    by_cases c : i < n
    ·exact c
    ·rw [hE i (by omega)] at hm; cases hm
   have e := h1 j hj (by omega) (hn i j hm)
   obtain ⟨a,b⟩ := hA j (by omega)
   have : A j = i := gUniq E n e a hi b hm
   rw [this,ih f (hF i j hm) (by omega)]
   simp
theorem gUp_no {A : Nat → Nat} (hA : ∀ j,0 < gCnt E n j → A j < n ∧ j ∈ E (A j)) (hF : ∀ i j,j ∈ E i → F i = true)
  (h1 : ∀ j,F j = true → 0 < j → j < n → gCnt E n j = 1) : ∀ (f j : Nat),F j = true → j < n → gUp A f j = true → ∃ k,GUp E k j := by
 intro f
 induction f with
 | zero =>
  intro j _ _ h; have : j = 0 := by simpa [gUp] using h
  subst this; exact ⟨0,.top⟩
 | succ f ih =>
  intro j hj hjn h
  unfold gUp at h
  by_cases z : j = 0
  ·subst z; exact ⟨0,.top⟩
  ·have e := h1 j hj (by omega) hjn
   obtain ⟨a,b⟩ := hA j (by omega)
   simp [z] at h
   obtain ⟨k,hk⟩ := ih (A j) (hF _ j b) a h
   exact ⟨k + 1,.step b hk⟩
end Graph
/-! ### FsOk, of the program and of the reference: the tests of one node -/
theorem fin_eq (a b c : Int) : impl_in.f a b c = some (decide (b ≤ a ∧ a ≤ c)) := by
 unfold impl_in.f
 by_cases h : a ≥ b <;> simp [h]
theorem fsin_eq (a b c : Int) : spec_l6In.f a b c = some (decide (b ≤ a ∧ a ≤ c)) := by
 unfold spec_l6In.f
 by_cases h : a ≥ b <;> simp [h]
theorem fuser_eq (a : Int) : spec_l5User.f a = some (decide (0 ≤ a ∧ a ≤ 9)) := by
 unfold spec_l5User.f
 rw [fsin_eq]; rfl
def nmFine (s : ByteArray) : Bool := decide ((1 : Int) ≤ s.size ∧ (s.size : Int) ≤ 3) && NM.nmAll s 0 s.size
theorem name_impl (s : ByteArray) : NM.impl_nameOk.f s = some (nmFine s) := rfl
theorem bt_get {s : ByteArray} {i : Nat} (h : i < s.size) : bt s (i : Int) = ((s.get! i).toNat : Int) := by
 unfold bt
 have h' : ((i : Int)).toNat < s.size := by omega
 rw [dif_pos h']
 have e : ((i : Int)).toNat = i := by omega
 congr 2
 simp only [e]
 obtain ⟨a⟩ := s
 have h2 : i < a.size := h
 show a[i] = a[i]!
 exact (getElem!_pos a i h2).symm
theorem nm_spec (s : ByteArray) (hs : s.size ≤ 1000000000) (d : Nat) : ∀ k i : Nat,i + d = s.size → d < k → spec_l7Name.l0 k s (i : Int) = some (decide ((1 : Int) ≤ s.size ∧ (s.size : Int) ≤ 3) && NM.nmAll s i d) := by
 induction d with
 | zero =>
  intro k i hi hk
  obtain ⟨k,rfl⟩ : ∃ m,k = m + 1 := ⟨k - 1,by omega⟩
  rw [spec_l7Name.l0,if_neg (by omega),fsin_eq]
  simp [NM.nmAll]
 | succ d ih =>
  intro k i hi hk
  obtain ⟨k,rfl⟩ : ∃ m,k = m + 1 := ⟨k - 1,by omega⟩
  rw [spec_l7Name.l0,if_pos (by omega),if_pos (by omega),bt_get (show i < s.size by omega),wsucc (show i < s.size by omega) (by omega),ih k (i + 1) (by omega) (by omega)]
  show _ = some (_ && (!NM.nmOut (s.get! i).toNat && NM.nmAll s (i + 1) d))
  generalize (s.get! i).toNat = b
  unfold NM.nmOut
  by_cases c1 : b < 97
  ·rw [if_pos (by omega)]; simp [c1]
  ·rw [if_neg (by omega)]
   by_cases c2 : 122 < b
   ·rw [if_pos (by omega)]; simp [c2]
   ·rw [if_neg (by omega)]; simp [c1,c2]
theorem name_spec (s : ByteArray) (hs : s.size ≤ 1000000000) {k : Nat} (hk : s.size < k) : spec_l7Name.f k s = some (nmFine s) := nm_spec s hs s.size k 0 (by omega) hk
def plainB (z : S34) : Bool := (impl_Inode_zero.f z.f0 z.f1 z.f2 z.f3 z.f4 z.f5 z.f6 z.f7 z.f8).getD false
theorem plain_impl (z : S34) : impl_Inode_zero.f z.f0 z.f1 z.f2 z.f3 z.f4 z.f5 z.f6 z.f7 z.f8 = some (plainB z) := by
 unfold plainB impl_Inode_zero.f
 repeat' split
 all_goals rfl
theorem plain_spec (z : S34) : spec_l7Plain.f z.f0 z.f1 z.f2 z.f3 z.f4 z.f5 z.f6 z.f7 z.f8 = some (plainB z) := plain_impl z
theorem plain_len {z : S34} (h : plainB z = true) : z.f8 = [] := by
 unfold plainB impl_Inode_zero.f at h
 by_cases c : (z.f8.length : Int) == 0
 ·have : z.f8.length = 0 := by have := eq_of_beq c; omega
  exact List.eq_nil_of_length_eq_zero this
 ·exfalso
  have e : ((z.f8.length : Int) == 0) = false := by simpa using c
  rw [e] at h
  revert h
  repeat' split
  all_goals (intro h; cases h)
def nodeA (z : S34) : Bool := decide (1 ≤ z.f0 ∧ z.f0 ≤ 2) && (decide (0 ≤ z.f1 ∧ z.f1 ≤ 511) && (decide (0 ≤ z.f2 ∧ z.f2 ≤ 9) && (decide (0 ≤ z.f3 ∧ z.f3 ≤ 9) && decide (0 ≤ z.f5 ∧ z.f5 ≤ 99))))
def nodeL (z : S34) : Bool := decide (0 ≤ z.f4 ∧ z.f4 ≤ 99)
def nodeB (z : S34) : Bool := if z.f0 = 1 then decide (z.f7.size ≤ 40) && decide (z.f8.length = 0) else (decide (z.f7.toList = ([] : List UInt8)) && (!z.f6 && decide (z.f8.length ≤ 6)))
/-- what both ask of an entry: its name, and that it stands behind the one before -/
def entC (es : List S47) (j : Nat) : Bool := nmFine (rd_T47 es (j : Int)).f0 && (decide (j = 0) || Op.bytesLess (rd_T47 es ((j : Int) - 1)).f0.toList (rd_T47 es (j : Int)).f0.toList)
def entS (es : List S47) (j : Nat) : Bool := entC es j && decide (1 ≤ (rd_T47 es (j : Int)).f1 ∧ (rd_T47 es (j : Int)).f1 ≤ 9)
def entSF (es : List S47) (j : Nat) : Nat → Bool
 | 0 => true
 | d + 1 => entS es j && entSF es (j + 1) d
theorem inode_loop (z : S34) (hn : ∀ e ∈ z.f8,e.f0.size ≤ 1048576) (hl : z.f8.length ≤ 1048576) (d : Nat) : ∀ k j : Nat,j + d = z.f8.length → 2 * d + 1048580 < k → spec_l7Inode.l0 k (j : Int) z.f0 z.f1 z.f2 z.f3 z.f4 z.f5 z.f6 z.f7 z.f8 = some (entSF z.f8 j d) := by
 induction d with
 | zero =>
  intro k j hj hk
  obtain ⟨k,rfl⟩ : ∃ m,k = m + 1 := ⟨k - 1,by omega⟩
  rw [spec_l7Inode.l0,if_neg (by omega)]; rfl
 | succ d ih =>
  intro k j hj hk
  obtain ⟨k,rfl⟩ : ∃ m,k = m + 1 + 1 := ⟨k - 2,by omega⟩
  have e := ih k (j + 1) (by omega) (by omega)
  have hm : (rd_T47 z.f8 (j : Int)).f0.size ≤ 1048576 := by
   have hjl : ((j : Int)).toNat < z.f8.length := by omega
   have : rd_T47 z.f8 (j : Int) ∈ z.f8 := by
    unfold rd_T47
    rw [List.getD_eq_getElem?_getD,List.getElem?_eq_getElem hjl]
    exact List.getElem_mem hjl
   exact hn _ this
  have w : wrap64 ((j : Int) + 1) = ((j + 1 : Nat) : Int) := wsucc (show j < z.f8.length by omega) (by omega)
  have w' : wrap64 ((j : Int) - 1) = (j : Int) - 1 := w64 (by clear w; omega) (by clear w; omega)
  have jj : ∀ b,spec_l7Inode.j3 (k + 1) (j : Int) b z.f0 z.f1 z.f2 z.f3 z.f4 z.f5 z.f6 z.f7 z.f8 = some (!b && entSF z.f8 (j + 1) d) := by
   intro b
   rw [spec_l7Inode.j3,w,e]
   cases b <;> rfl
  rw [spec_l7Inode.l0,if_pos (by clear w w'; omega),if_pos (by clear w w'; omega),name_spec _ (by clear w w'; omega) (by clear w w'; omega),fsin_eq,w']
  clear w w' e ih
  simp only [Option.bind_some,jj,entSF,entS,entC]
  generalize entSF z.f8 (j + 1) d = Z
  generalize nmFine (rd_T47 z.f8 (j : Int)).f0 = a
  generalize Op.bytesLess (rd_T47 z.f8 ((j : Int) - 1)).f0.toList (rd_T47 z.f8 (j : Int)).f0.toList = b
  cases a with
  | false => simp
  | true =>
   by_cases c1 : 1 ≤ (rd_T47 z.f8 (j : Int)).f1 ∧ (rd_T47 z.f8 (j : Int)).f1 ≤ 9
   ·by_cases c2 : j = 0
    ·subst c2
     have c1' : 1 ≤ (rd_T47 z.f8 0).f1 ∧ (rd_T47 z.f8 0).f1 ≤ 9 := c1
     simp [c1']
    ·have p1 : (j : Int) > 0 := by omega
     have p2 : 0 ≤ (j : Int) - 1 := by omega
     have p3 : (j : Int) - 1 < (z.f8.length : Int) := by omega
     have p4 : 0 < j := by omega
     have p5 : 1 ≤ (j : Int) := by omega
     cases b <;> simp [c1,c2,p3,p4] <;> omega
   ·simp [c1]
def nodeS (z : S34) : Bool := if z.f0 = 0 then plainB z else nodeA z && (nodeL z && (nodeB z && entSF z.f8 0 z.f8.length))
theorem inode_spec (z : S34) (hn : ∀ e ∈ z.f8,e.f0.size ≤ 1048576) (hl : z.f8.length ≤ 1048576) {k : Nat} (hk : 4000000 < k) : spec_l7Inode.f k z.f0 z.f1 z.f2 z.f3 z.f4 z.f5 z.f6 z.f7 z.f8 = some (nodeS z) := by
 obtain ⟨k,rfl⟩ : ∃ m,k = m + 1 + 1 := ⟨k - 2,by omega⟩
 have e : spec_l7Inode.l0 k 0 z.f0 z.f1 z.f2 z.f3 z.f4 z.f5 z.f6 z.f7 z.f8 = some (entSF z.f8 0 z.f8.length) := inode_loop z hn hl z.f8.length k 0 (by omega) (by omega)
 have j1 : ∀ b,spec_l7Inode.j1 (k + 1) b z.f0 z.f1 z.f2 z.f3 z.f4 z.f5 z.f6 z.f7 z.f8 = some (!b && entSF z.f8 0 z.f8.length) := by
  intro b
  rw [spec_l7Inode.j1,e]
  cases b <;> rfl
 unfold spec_l7Inode.f nodeS
 by_cases c : z.f0 = 0
 ·rw [if_pos c,if_pos c,plain_spec]; rfl
 ·rw [if_neg c,if_neg c]
  simp only [fsin_eq,fuser_eq,Option.bind_some]
  have j0 : ∀ b,spec_l7Inode.j0 (k + 1 + 1) b z.f0 z.f1 z.f2 z.f3 z.f4 z.f5 z.f6 z.f7 z.f8 = some (!b && ((if z.f0 = 2 then decide (z.f7.toList = ([] : List UInt8)) && !z.f6 else if z.f0 = 1 then decide (z.f8.length = 0) else true) && entSF z.f8 0 z.f8.length)) := by
   intro b
   rw [spec_l7Inode.j0]
   simp only [j1]
   cases b with
   | true => rfl
   | false =>
    by_cases d1 : z.f0 = 2
    ·by_cases d2 : z.f7.toList = ([] : List UInt8) <;> cases z.f6 <;> simp [d1,d2]
    ·by_cases d3 : z.f0 = 1
     ·by_cases d4 : z.f8.length = 0
      ·simp [d3,d4]
      ·have : 0 < z.f8.length := by omega
       simp [d3,d4,this]
     ·simp [d1,d3]
  simp only [j0]
  generalize entSF z.f8 0 z.f8.length = Z
  clear e j1 j0
  unfold nodeA nodeL nodeB
  by_cases c0 : 1 ≤ z.f0 ∧ z.f0 ≤ 2
  ·by_cases c1 : 0 ≤ z.f1 ∧ z.f1 ≤ 511
   ·by_cases c2 : 0 ≤ z.f2 ∧ z.f2 ≤ 9
    ·by_cases c3 : 0 ≤ z.f3 ∧ z.f3 ≤ 9
     ·by_cases c4 : 0 ≤ z.f5 ∧ z.f5 ≤ 99
      ·by_cases c5 : 0 ≤ z.f4 ∧ z.f4 ≤ 99
       ·simp only [c0,c1,c2,c3,c4,c5,and_self,decide_true,if_true,Bool.true_and]
        by_cases d3 : z.f0 = 1
        ·by_cases d4 : (z.f7.size : Int) > 40
         ·have : ¬ z.f7.size ≤ 40 := by omega
          simp [d3,d4,this]
         ·have : z.f7.size ≤ 40 := by omega
          by_cases d5 : z.f8.length = 0
          ·simp [d3,d4,this,d5]
          ·simp [d3,d4,this,d5]
        ·have d2 : z.f0 = 2 := by omega
         by_cases d6 : z.f7.toList = ([] : List UInt8)
         ·have d7 := toList_nil.1 d6
          by_cases d8 : z.f8.length ≤ 6
          ·have d9 : ¬ (z.f8.length : Int) > 6 := by omega
           simp [d2,d6,d7,d8,d9]
           try omega
          ·have d9 : (z.f8.length : Int) > 6 := by omega
           simp [d2,d6,d7,d8,d9]
         ·by_cases d4 : (z.f7.size : Int) > 40 <;> simp [d2,d4,d6]
       ·simp [c0,c1,c2,c3,c4,c5]
      ·simp [c0,c1,c2,c3,c4]
     ·simp [c0,c1,c2,c3]
    ·simp [c0,c1,c2]
   ·simp [c0,c1]
  ·simp [c0]
/-! ### the loops over nodes and entries: links are counted, and the last folder that has a name is kept -/
def nd (ns : List S34) (i : Nat) : S34 := rd_T34 ns (i : Int)
def bumpE (xs : List Int) : List S47 → List Int
 | [] => xs
 | e :: es => bumpE (xs.set e.f1.toNat (wrap64 (rd xs e.f1 + 1))) es
def markE (xs : List Int) (v : Int) : List S47 → List Int
 | [] => xs
 | e :: es => markE (xs.set e.f1.toNat v) v es
theorem bumpE_len (es : List S47) : ∀ xs : List Int,(bumpE xs es).length = xs.length := by
 induction es with
 | nil => intro xs; rfl
 | cons e es ih => intro xs; unfold bumpE; rw [ih, List.length_set]
theorem markE_len (v : Int) (es : List S47) : ∀ xs : List Int,(markE xs v es).length = xs.length := by
 induction es with
 | nil => intro xs; rfl
 | cons e es ih => intro xs; unfold markE; rw [ih, List.length_set]
theorem drop_rd {es : List S47} {j : Nat} (h : j < es.length) : es.drop j = rd_T47 es (j : Int) :: es.drop (j + 1) := by
 rw [List.drop_eq_getElem_cons h]
 congr 1
 unfold rd_T47
 rw [List.getD_eq_getElem?_getD,show ((j : Int)).toNat = j by omega,List.getElem?_eq_getElem h]; rfl
def entI (ns : List S34) (es : List S47) (j : Nat) : Bool := entC es j && (decide (0 ≤ (rd_T47 es (j : Int)).f1 ∧ (rd_T47 es (j : Int)).f1 ≤ 9) && decide ((rd_T34 ns (rd_T47 es (j : Int)).f1).f0 ≠ 0))
def entIF (ns : List S34) (es : List S47) (j : Nat) : Nat → Bool
 | 0 => true
 | d + 1 => entI ns es j && entIF ns es (j + 1) d
theorem impl_ents (ns : List S34) (hns : ns.length = 10) (i : Nat) (z : S34) (hl : z.f8.length ≤ 1048576) (m : Nat) (d : Nat) : ∀ (j : Nat) (x3 x4 : List Int),j + d = z.f8.length → x3.length = 10 → x4.length = 10 →
  impl_FsOk.l1 (m + 2 * d + 1) x3 x4 (i : Int) ns 10 (i : Int) z.f8 (z.f8.length : Int) (j : Int) ns z.f0 z.f1 z.f2 z.f3 z.f4 z.f5 z.f6 z.f7 z.f8 = if entIF ns z.f8 j d = true then impl_FsOk.l0 (m + 0) (bumpE x3 (z.f8.drop j)) (markE x4 (i : Int) (z.f8.drop j)) ns 10 (wrap64 ((i : Int) + 1)) ns else some false := by
 induction d with
 | zero =>
  intro j x3 x4 hj h3 h4
  rw [impl_FsOk.l1,if_neg (by omega),List.drop_eq_nil_of_le (by omega)]
  rfl
 | succ d ih =>
  intro j x3 x4 hj h3 h4
  have w : wrap64 ((j : Int) + 1) = ((j + 1 : Nat) : Int) := wsucc (show j < z.f8.length by omega) (by omega)
  have w' : wrap64 ((j : Int) - 1) = (j : Int) - 1 := w64 (by clear w; omega) (by clear w; omega)
  rw [drop_rd (show j < z.f8.length by clear w w'; omega)]
  have e := ih (j + 1) (x3.set (rd_T47 z.f8 (j : Int)).f1.toNat (wrap64 (rd x3 (rd_T47 z.f8 (j : Int)).f1 + 1))) (x4.set (rd_T47 z.f8 (j : Int)).f1.toNat (i : Int)) (by clear w w'; omega) (by rw [List.length_set]; exact h3) (by rw [List.length_set]; exact h4)
  rw [show m + 2 * (d + 1) + 1 = m + 2 * d + 1 + 1 + 1 by clear w w'; omega,impl_FsOk.l1,if_pos (by clear w w'; omega),if_pos (by clear w w'; omega),if_pos (by clear w w'; omega),name_impl]
  unfold bumpE markE
  generalize hE : rd_T47 z.f8 (j : Int) = E at e ⊢
  have jj : ∀ b a0,0 ≤ E.f1 → E.f1 ≤ 9 → impl_FsOk.j5 (m + 2 * d + 1 + 1) x3 x4 (i : Int) ns 10 (i : Int) z.f8 (z.f8.length : Int) (j : Int) b ns z.f0 z.f1 z.f2 z.f3 z.f4 z.f5 z.f6 z.f7 z.f8 a0 E.f1 = if (!b && entIF ns z.f8 (j + 1) d) = true then impl_FsOk.l0 (m + 0) (bumpE (x3.set E.f1.toNat (wrap64 (rd x3 E.f1 + 1))) (z.f8.drop (j + 1))) (markE (x4.set E.f1.toNat (i : Int)) (i : Int) (z.f8.drop (j + 1))) ns 10 (wrap64 ((i : Int) + 1)) ns else some false := by
   intro b a0 g0 g1
   rw [impl_FsOk.j5]
   cases b with
   | true => rfl
   | false =>
    rw [if_neg (by decide),if_pos g0,if_pos (by clear w w'; omega),if_pos (by clear w w'; omega),w,e]
    simp
  have jt : ∀ a0 a1,impl_FsOk.j5 (m + 2 * d + 1 + 1) x3 x4 (i : Int) ns 10 (i : Int) z.f8 (z.f8.length : Int) (j : Int) true ns z.f0 z.f1 z.f2 z.f3 z.f4 z.f5 z.f6 z.f7 z.f8 a0 a1 = some false := by
   intro a0 a1
   rw [impl_FsOk.j5]; rfl
  clear e ih
  simp only [fin_eq,Option.bind_some,entIF,entI,entC,w',hE]
  clear w w'
  cases hf : nmFine E.f0 with
  | false => rw [if_neg (by decide), jt]; simp
  | true =>
   rw [if_pos rfl]
   by_cases c1 : 0 ≤ E.f1 ∧ E.f1 ≤ 9
   ·have p0 : 0 ≤ E.f1 := c1.1
    have p1 : E.f1 < (ns.length : Int) := by omega
    rw [if_pos (decide_eq_true c1),if_pos p0,if_pos p1]
    by_cases c2 : (rd_T34 ns E.f1).f0 = 0
    ·rw [if_pos c2,jt]; simp [c2]
    ·rw [if_neg c2]
     by_cases c3 : j = 0
     ·rw [if_neg (by omega),jj _ _ c1.1 c1.2]
      simp [c1,c2,c3]
     ·rw [if_pos (by omega),if_pos (by omega),if_pos (by omega),jj _ _ c1.1 c1.2]
      simp [c1,c2,c3]
   ·rw [if_neg (by simpa using c1),jt]
    simp [c1]
def okI (ns : List S34) (i : Nat) : Bool := if (nd ns i).f0 = 0 then plainB (nd ns i) else nodeA (nd ns i) && (nodeB (nd ns i) && entIF ns (nd ns i).f8 0 (nd ns i).f8.length)
theorem impl_node (ns : List S34) (hns : ns.length = 10) (i : Nat) (hi : i < 10) (hl : (nd ns i).f8.length ≤ 1048576) (m : Nat) (x3 x4 : List Int) (h3 : x3.length = 10) (h4 : x4.length = 10) :
  ∃ m',m ≤ m' ∧ impl_FsOk.l0 (m + 2 * (nd ns i).f8.length + 4) x3 x4 ns 10 (i : Int) ns = if okI ns i = true then impl_FsOk.l0 m' (bumpE x3 (nd ns i).f8) (markE x4 (i : Int) (nd ns i).f8) ns 10 ((i + 1 : Nat) : Int) ns else some false := by
 have w : wrap64 ((i : Int) + 1) = ((i + 1 : Nat) : Int) := wsucc hi (by omega)
 have e := impl_ents ns hns i (nd ns i) hl m (nd ns i).f8.length 0 x3 x4 (by omega) h3 h4
 rw [w] at e
 have eq0 : rd_T34 ns (i : Int) = nd ns i := rfl
 by_cases c : (nd ns i).f0 = 0
 ·refine ⟨m + 2 * (nd ns i).f8.length + 3,by clear w; omega,?_⟩
  rw [show m + 2 * (nd ns i).f8.length + 4 = m + 2 * (nd ns i).f8.length + 3 + 1 from rfl,impl_FsOk.l0,if_pos (by clear w; omega),if_pos (by clear w; omega),if_pos (by clear w; omega),eq0,if_pos c,plain_impl,Option.bind_some,w]
  unfold okI
  rw [if_pos c]
  by_cases p : plainB (nd ns i) = true
  ·rw [if_pos p,if_pos p,plain_len p]; rfl
  ·rw [if_neg p,if_neg p]
 ·refine ⟨m + 0,by clear w; omega,?_⟩
  rw [show m + 2 * (nd ns i).f8.length + 4 = m + 2 * (nd ns i).f8.length + 1 + 1 + 1 + 1 from rfl,impl_FsOk.l0,if_pos (by clear w; omega),if_pos (by clear w; omega),if_pos (by clear w; omega),eq0,if_neg c]
  clear w
  generalize hz : nd ns i = z at *
  have j3 : ∀ b,impl_FsOk.j3 (m + 2 * z.f8.length + 1 + 1) x3 x4 (i : Int) ns 10 (i : Int) b ns z.f0 z.f1 z.f2 z.f3 z.f4 z.f5 z.f6 z.f7 z.f8 = if (!b && entIF ns z.f8 0 z.f8.length) = true then impl_FsOk.l0 (m + 0) (bumpE x3 z.f8) (markE x4 (i : Int) z.f8) ns 10 ((i + 1 : Nat) : Int) ns else some false := by
   intro b
   rw [impl_FsOk.j3]
   cases b with
   | true => rfl
   | false => rw [if_neg (by decide)]; simpa using e
  have j2 : ∀ b,1 ≤ z.f0 ∧ z.f0 ≤ 2 → impl_FsOk.j2 (m + 2 * z.f8.length + 1 + 1 + 1) x3 x4 (i : Int) ns 10 (i : Int) b ns z.f0 z.f1 z.f2 z.f3 z.f4 z.f5 z.f6 z.f7 z.f8 = if (!b && (nodeB z && entIF ns z.f8 0 z.f8.length)) = true then impl_FsOk.l0 (m + 0) (bumpE x3 z.f8) (markE x4 (i : Int) z.f8) ns 10 ((i + 1 : Nat) : Int) ns else some false := by
   intro b c0
   rw [impl_FsOk.j2]
   cases b with
   | true => rfl
   | false =>
    rw [if_neg (by decide)]
    simp only [j3]
    unfold nodeB
    by_cases d3 : z.f0 = 1
    ·by_cases d4 : (z.f7.size : Int) > 40
     ·have : ¬ z.f7.size ≤ 40 := by omega
      simp [d3,d4,this]
     ·have : z.f7.size ≤ 40 := by omega
      by_cases d5 : z.f8.length = 0
      ·simp [d3,d4,this,d5]
      ·have d6 : 0 < z.f8.length := by omega
       simp [d3,d4,this,d5,d6]
    ·have d2 : z.f0 = 2 := by omega
     by_cases d6 : z.f7.toList = ([] : List UInt8)
     ·by_cases d8 : z.f8.length ≤ 6
      ·have d9 : ¬ (z.f8.length : Int) > 6 := by omega
       cases z.f6 <;> simp [d2,d6,d8,d9]
      ·have d9 : (z.f8.length : Int) > 6 := by omega
       cases z.f6 <;> simp [d2,d6,d8,d9]
     ·simp [d2,d6]
  have j2t : impl_FsOk.j2 (m + 2 * z.f8.length + 1 + 1 + 1) x3 x4 (i : Int) ns 10 (i : Int) true ns z.f0 z.f1 z.f2 z.f3 z.f4 z.f5 z.f6 z.f7 z.f8 = some false := by
   rw [impl_FsOk.j2]; rfl
  unfold okI nodeA
  simp only [hz]
  rw [if_neg c]
  simp only [fin_eq,Option.bind_some]
  by_cases c0 : 1 ≤ z.f0 ∧ z.f0 ≤ 2
  ·simp only [j2 _ c0]
   by_cases c1 : 0 ≤ z.f1 ∧ z.f1 ≤ 511
   ·by_cases c2 : 0 ≤ z.f2 ∧ z.f2 ≤ 9
    ·by_cases c3 : 0 ≤ z.f3 ∧ z.f3 ≤ 9
     ·by_cases c4 : 0 ≤ z.f5 ∧ z.f5 ≤ 99
      ·simp [c0,c1,c2,c3,c4]
      ·simp [c0,c1,c2,c3,c4]
     ·simp [c0,c1,c2,c3]
    ·simp [c0,c1,c2]
   ·simp [c0,c1]
  ·rw [if_neg (by simpa using c0),j2t]
   simp [c0]
def okIF (ns : List S34) (i : Nat) : Nat → Bool
 | 0 => true
 | d + 1 => okI ns i && okIF ns (i + 1) d
def bumpF (ns : List S34) (xs : List Int) (i : Nat) : Nat → List Int
 | 0 => xs
 | d + 1 => bumpF ns (bumpE xs (nd ns i).f8) (i + 1) d
def markF (ns : List S34) (xs : List Int) (i : Nat) : Nat → List Int
 | 0 => xs
 | d + 1 => markF ns (markE xs (i : Int) (nd ns i).f8) (i + 1) d
theorem impl_nodes (ns : List S34) (hns : ns.length = 10) (hl : ∀ i,i < 10 → (nd ns i).f8.length ≤ 1048576) (d : Nat) : ∀ (i k : Nat) (x3 x4 : List Int),i + d = 10 → 3000000 * (d + 1) ≤ k → x3.length = 10 → x4.length = 10 →
  ∃ m',2000000 ≤ m' ∧ impl_FsOk.l0 k x3 x4 ns 10 (i : Int) ns = if okIF ns i d = true then impl_FsOk.l2 m' (bumpF ns x3 i d) (markF ns x4 i d) ns 10 0 else some false := by
 induction d with
 | zero =>
  intro i k x3 x4 hi hk h3 h4
  obtain ⟨k,rfl⟩ : ∃ m,k = m + 1 := ⟨k - 1,by omega⟩
  refine ⟨k,by omega,?_⟩
  rw [impl_FsOk.l0,if_neg (by omega),hns]
  rfl
 | succ d ih =>
  intro i k x3 x4 hi hk h3 h4
  have hli := hl i (by omega)
  obtain ⟨m,rfl⟩ : ∃ m,k = m + 2 * (nd ns i).f8.length + 4 := ⟨k - 2 * (nd ns i).f8.length - 4,by omega⟩
  obtain ⟨m',g1,g2⟩ := impl_node ns hns i (by omega) hli m x3 x4 h3 h4
  obtain ⟨m2,g3,g4⟩ := ih (i + 1) m' (bumpE x3 (nd ns i).f8) (markE x4 (i : Int) (nd ns i).f8) (by omega) (by omega) (by rw [bumpE_len]; exact h3) (by rw [markE_len]; exact h4)
  refine ⟨m2,g3,?_⟩
  rw [g2,g4]
  show _ = if (okI ns i && okIF ns (i + 1) d) = true then impl_FsOk.l2 m2 (bumpF ns (bumpE x3 (nd ns i).f8) (i + 1) d) (markF ns (markE x4 (i : Int) (nd ns i).f8) (i + 1) d) ns 10 0 else some false
  cases okI ns i <;> simp
/-! ### FsOk of the program: the last loop, with the walk up -/
def upA (x4 : List Int) (j : Nat) : Nat := (rd x4 (j : Int)).toNat
theorem impl_up (ns : List S34) (x3 x4 : List Int) (h4 : x4.length = 10) (hA : ∀ j : Nat,j < 10 → 0 ≤ rd x4 (j : Int) ∧ rd x4 (j : Int) < 10) (i : Nat) (m : Nat) (f : Nat) : ∀ (j s : Nat),j < 10 → s + f = 11 →
  ∃ m',m ≤ m' ∧ impl_FsOk.l3 (m + f + 1) x3 x4 (j : Int) (s : Int) ns 10 (i : Int) = if gUp (upA x4) f j = true then impl_FsOk.l2 m' x3 x4 ns 10 (wrap64 ((i : Int) + 1)) else some false := by
 induction f with
 | zero =>
  intro j s hj hs
  refine ⟨m,by omega,?_⟩
  rw [impl_FsOk.l3]
  by_cases c : j = 0
  ·subst c; simp [gUp]
  ·rw [if_neg (by omega),if_pos (by omega)]; simp [gUp,c]
 | succ f ih =>
  intro j s hj hs
  obtain ⟨a,b⟩ := hA j hj
  by_cases c : j = 0
  ·subst c
   refine ⟨m + (f + 1),by omega,?_⟩
   rw [impl_FsOk.l3]; simp [gUp]
  ·obtain ⟨m',g1,g2⟩ := ih (upA x4 j) (s + 1) (by unfold upA; omega) (by omega)
   refine ⟨m',g1,?_⟩
   rw [impl_FsOk.l3,if_neg (by omega),if_neg (by omega),if_pos (by omega),if_pos (by omega),w64 (n := (s : Int) + 1) (by omega) (by omega)]
   have e : ((upA x4 j : Nat) : Int) = rd x4 (j : Int) := by unfold upA; omega
   rw [e,show ((s + 1 : Nat) : Int) = (s : Int) + 1 by omega,show m + f + 1 = m + (f + 1) by omega] at g2
   rw [g2]
   simp [gUp,c]
def condI (ns : List S34) (x3 x4 : List Int) (j : Nat) : Bool := if (nd ns j).f0 = 0 then true else decide ((nd ns j).f4 = rd x3 (j : Int)) && (!(decide ((nd ns j).f0 = 1) && (decide ((nd ns j).f4 = 0) && decide ((nd ns j).f5 = 0))) && (!(decide ((nd ns j).f0 = 2) && (decide (0 < j) && decide ((nd ns j).f4 ≠ 1))) && (!(decide (j = 0) && decide ((nd ns j).f4 ≠ 0)) && (decide ((nd ns j).f0 ≠ 2) || gUp (upA x4) 11 j))))
def condIF (ns : List S34) (x3 x4 : List Int) (i : Nat) : Nat → Bool
 | 0 => true
 | d + 1 => condI ns x3 x4 i && condIF ns x3 x4 (i + 1) d
theorem impl_ways (ns : List S34) (x3 x4 : List Int) (hns : ns.length = 10) (h3 : x3.length = 10) (h4 : x4.length = 10) (hA : ∀ j : Nat,j < 10 → 0 ≤ rd x4 (j : Int) ∧ rd x4 (j : Int) < 10) (d : Nat) : ∀ (i k : Nat),i + d = 10 → 20 * (d + 1) ≤ k →
  impl_FsOk.l2 k x3 x4 ns 10 (i : Int) = some (condIF ns x3 x4 i d) := by
 induction d with
 | zero =>
  intro i k hi hk
  obtain ⟨k,rfl⟩ : ∃ m,k = m + 1 := ⟨k - 1,by omega⟩
  rw [impl_FsOk.l2,if_neg (by omega)]; rfl
 | succ d ih =>
  intro i k hi hk
  obtain ⟨m,rfl⟩ : ∃ m,k = m + 11 + 1 + 1 + 1 := ⟨k - 14,by omega⟩
  have w : wrap64 ((i : Int) + 1) = ((i + 1 : Nat) : Int) := wsucc (show i < 10 by omega) (by omega)
  have nx : ∀ k,m ≤ k → impl_FsOk.l2 k x3 x4 ns 10 (wrap64 ((i : Int) + 1)) = some (condIF ns x3 x4 (i + 1) d) := by
   intro k g; rw [w]; exact ih (i + 1) k (by clear w; omega) (by clear w; omega)
  obtain ⟨m',g1,g2⟩ := impl_up ns x3 x4 h4 hA i m 11 i 0 (by clear w; omega) rfl
  rw [nx m' g1] at g2
  clear w ih
  have eq0 : rd_T34 ns (i : Int) = nd ns i := rfl
  rw [impl_FsOk.l2,if_pos (by omega),if_pos (by omega),if_pos (by omega),eq0,if_pos (c := (i : Int) < (x3.length : Int)) (by omega),nx _ (by omega)]
  rw [show condIF ns x3 x4 i (d + 1) = (condI ns x3 x4 i && condIF ns x3 x4 (i + 1) d) from rfl]
  unfold condI
  generalize nd ns i = z
  generalize gUp (upA x4) 11 i = G at g2 ⊢
  generalize condIF ns x3 x4 (i + 1) d = C at nx g2 ⊢
  have j7 : ∀ b,impl_FsOk.j7 (m + 11 + 1 + 1) x3 x4 (i : Int) ns 10 (i : Int) b z.f0 z.f1 z.f2 z.f3 z.f4 z.f5 z.f6 z.f7 z.f8 = some (!b && ((decide (z.f0 ≠ 2) || G) && C)) := by
   intro b
   rw [impl_FsOk.j7]
   cases b with
   | true => rfl
   | false =>
    rw [if_neg (by decide),nx _ (by omega)]
    by_cases c : z.f0 = 2
    ·rw [if_pos c]
     refine g2.trans ?_
     cases G <;> simp [c]
    ·rw [if_neg c]; simp [c]
  simp only [j7]
  clear j7 nx g2 hA
  generalize rd x3 (i : Int) = L
  by_cases c0 : z.f0 = 0
  ·simp [c0]
  ·by_cases c1 : z.f4 = L
   ·by_cases c2 : z.f0 = 1
    ·by_cases c3 : z.f4 = 0
     ·by_cases c4 : z.f5 = 0
      ·simp [c2,c3,c4,← c1]
      ·by_cases c5 : i = 0
       ·simp [c2,c3,c4,c5,← c1]
       ·simp [c2,c3,c4,c5,← c1]
     ·by_cases c5 : i = 0
      ·simp [c2,c3,c5,← c1]
      ·simp [c2,c3,c5,← c1]
    ·by_cases c3 : z.f0 = 2
     ·by_cases c5 : i = 0
      ·by_cases c6 : z.f4 = 0
       ·simp [c3,c5,c6,← c1]
       ·simp [c3,c5,c6,← c1]
      ·have c7 : 0 < i := by omega
       by_cases c6 : z.f4 = 1
       ·simp [c3,c5,c6,c7,← c1]
       ·simp [c3,c5,c6,c7,← c1]
     ·by_cases c5 : i = 0
      ·by_cases c6 : z.f4 = 0
       ·simp [c0,c2,c3,c5,c6,← c1]
       ·simp [c0,c2,c3,c5,c6,← c1]
      ·simp [c0,c2,c3,c5,← c1]
   ·simp [c0,c1]
/-! ### FsOk of the reference: its loops -/
theorem spec_ents (ns : List S34) (hns : ns.length = 10) (i : Nat) (hi : i < 10) (hl : (nd ns i).f8.length ≤ 1048576) (he : ∀ e ∈ (nd ns i).f8,0 ≤ e.f1 ∧ e.f1 ≤ 9) (m : Nat) (d : Nat) : ∀ (j : Nat) (x3 : List Int),j + d = (nd ns i).f8.length → x3.length = 10 →
  spec_FsOk.l1 (m + d + 1) x3 (i : Int) (j : Int) ns = spec_FsOk.l0 m (bumpE x3 ((nd ns i).f8.drop j)) ((i + 1 : Nat) : Int) ns := by
 induction d with
 | zero =>
  intro j x3 hj h3
  rw [spec_FsOk.l1,if_pos (by omega),if_pos (by omega),if_neg (show ¬ (j : Int) < (((rd_T34 ns (i : Int)).f8.length : Nat) : Int) by unfold nd at hj; omega),List.drop_eq_nil_of_le (by omega),wsucc hi (by omega)]
  rfl
 | succ d ih =>
  intro j x3 hj h3
  have hjl : j < (nd ns i).f8.length := by omega
  have hm : rd_T47 (nd ns i).f8 (j : Int) ∈ (nd ns i).f8 := by
   have h := drop_rd hjl
   exact List.mem_of_mem_drop (by rw [h]; exact List.mem_cons_self)
  obtain ⟨a,b⟩ := he _ hm
  have w : wrap64 ((j : Int) + 1) = ((j + 1 : Nat) : Int) := wsucc hjl (by omega)
  have e := ih (j + 1) (x3.set (rd_T47 (nd ns i).f8 (j : Int)).f1.toNat (wrap64 (rd x3 (rd_T47 (nd ns i).f8 (j : Int)).f1 + 1))) (by clear w; omega) (by rw [List.length_set]; exact h3)
  have eq0 : rd_T34 ns (i : Int) = nd ns i := rfl
  rw [drop_rd hjl,show m + (d + 1) + 1 = m + d + 1 + 1 by clear w; omega,spec_FsOk.l1,eq0,if_pos (by clear w; omega),if_pos (by clear w; omega),if_pos (by clear w; omega),if_pos (by clear w; omega),if_pos a,if_pos (by clear w; omega),w,e]
  rfl
def nodeSF (ns : List S34) (i : Nat) : Nat → Bool
 | 0 => true
 | d + 1 => nodeS (nd ns i) && nodeSF ns (i + 1) d
theorem entSF_mem {es : List S47} : ∀ (d j : Nat),j + d = es.length → entSF es j d = true → ∀ q,j ≤ q → q < es.length → entS es q = true := by
 intro d
 induction d with
 | zero => intro j hj _ q h1 h2; omega
 | succ d ih =>
  intro j hj h q h1 h2
  unfold entSF at h
  obtain ⟨a,b⟩ := Bool.and_eq_true_iff.1 h
  by_cases c : j = q
  ·subst c; exact a
  ·exact ih (j + 1) (by omega) b q (by omega) h2
theorem mem_rd {es : List S47} {e : S47} (h : e ∈ es) : ∃ j,j < es.length ∧ rd_T47 es (j : Int) = e := by
 obtain ⟨j,hj,rfl⟩ := List.getElem_of_mem h
 refine ⟨j,hj,?_⟩
 unfold rd_T47
 rw [List.getD_eq_getElem?_getD,show ((j : Int)).toNat = j by omega,List.getElem?_eq_getElem hj]; rfl
theorem nodeS_ents {z : S34} (h : nodeS z = true) : ∀ e ∈ z.f8,1 ≤ e.f1 ∧ e.f1 ≤ 9 := by
 intro e he
 unfold nodeS at h
 by_cases c : z.f0 = 0
 ·rw [if_pos c] at h; rw [plain_len h] at he; cases he
 ·rw [if_neg c] at h
  simp only [Bool.and_eq_true] at h
  obtain ⟨j,hj,rfl⟩ := mem_rd he
  have := entSF_mem z.f8.length 0 (by omega) h.2.2.2 j (by omega) hj
  unfold entS at this
  simp only [Bool.and_eq_true,decide_eq_true_eq] at this
  exact this.2
theorem spec_nodes (ns : List S34) (hns : ns.length = 10) (hl : ∀ i,i < 10 → (nd ns i).f8.length ≤ 1048576) (hm : ∀ i,i < 10 → ∀ e ∈ (nd ns i).f8,e.f0.size ≤ 1048576) (d : Nat) : ∀ (i k : Nat) (x3 : List Int),i + d = 10 → 5000000 * (d + 1) + 15000000 ≤ k → x3.length = 10 →
  ∃ m',20000000 ≤ m' ∧ spec_FsOk.l0 k x3 (i : Int) ns = if nodeSF ns i d = true then spec_FsOk.l0 m' (bumpF ns x3 i d) 10 ns else some false := by
 induction d with
 | zero =>
  intro i k x3 hi hk h3
  refine ⟨k,by omega,?_⟩
  rw [show i = 10 by omega]; rfl
 | succ d ih =>
  intro i k x3 hi hk h3
  have hli := hl i (by omega)
  obtain ⟨m,rfl⟩ : ∃ m,k = m + (nd ns i).f8.length + 1 + 1 := ⟨k - (nd ns i).f8.length - 2,by omega⟩
  obtain ⟨m2,g3,g4⟩ := ih (i + 1) m (bumpE x3 (nd ns i).f8) (by omega) (by omega) (by rw [bumpE_len]; exact h3)
  refine ⟨m2,g3,?_⟩
  have eq0 : rd_T34 ns (i : Int) = nd ns i := rfl
  rw [spec_FsOk.l0,if_pos (by omega),if_pos (by omega),if_pos (by omega),eq0,inode_spec (nd ns i) (hm i (by omega)) hli (by omega),Option.bind_some]
  show _ = if (nodeS (nd ns i) && nodeSF ns (i + 1) d) = true then spec_FsOk.l0 m2 (bumpF ns (bumpE x3 (nd ns i).f8) (i + 1) d) 10 ns else some false
  cases h : nodeS (nd ns i) with
  | false => simp
  | true =>
   have e := spec_ents ns hns i (by omega) hli (fun e he => by have := nodeS_ents h e he; omega) m (nd ns i).f8.length 0 x3 (by omega) h3
   rw [if_pos rfl,Bool.true_and,← g4]
   exact e
def kE (ns : List S34) (i : Nat) : List Nat := (nd ns i).f8.map (fun e => e.f1.toNat)
def kF (ns : List S34) (j : Nat) : Bool := decide ((nd ns j).f0 = 2)
def cst (n : Nat) : Int := (n : Int)
theorem spec_kids (ns : List S34) (hns : ns.length = 10) (i : Nat) (hi : i < 10) (hl : (nd ns i).f8.length ≤ 1048576) (he : ∀ e ∈ (nd ns i).f8,0 ≤ e.f1 ∧ e.f1 ≤ 9) (x4 : List Bool) (m : Nat) (d : Nat) : ∀ (j : Nat) (T : List Nat),j + d = (nd ns i).f8.length → T.length + d ≤ 20000000 →
  spec_l7Folders.l1 (m + d + 1) x4 (T.map cst) (i : Int) (j : Int) ns = spec_l7Folders.l0 m x4 ((T ++ (((nd ns i).f8.drop j).map (fun e => e.f1.toNat)).filter (kF ns)).map cst) ns := by
 induction d with
 | zero =>
  intro j T hj hT
  rw [spec_l7Folders.l1,if_pos (by omega),if_pos (by omega),if_neg (show ¬ (j : Int) < (((rd_T34 ns (i : Int)).f8.length : Nat) : Int) by unfold nd at hj; omega),List.drop_eq_nil_of_le (by omega)]
  simp
 | succ d ih =>
  intro j T hj hT
  have hjl : j < (nd ns i).f8.length := by omega
  have hm : rd_T47 (nd ns i).f8 (j : Int) ∈ (nd ns i).f8 := by
   have h := drop_rd hjl
   exact List.mem_of_mem_drop (by rw [h]; exact List.mem_cons_self)
  obtain ⟨a,b⟩ := he _ hm
  have w : wrap64 ((j : Int) + 1) = ((j + 1 : Nat) : Int) := wsucc hjl (by omega)
  have eq0 : rd_T34 ns (i : Int) = nd ns i := rfl
  rw [drop_rd hjl,show m + (d + 1) + 1 = m + d + 1 + 1 by clear w; omega,spec_l7Folders.l1,eq0,if_pos (by clear w; omega),if_pos (by clear w; omega),if_pos (by clear w; omega),if_pos (by clear w; omega)]
  generalize rd_T47 (nd ns i).f8 (j : Int) = e at a b ⊢
  rw [if_pos a,if_pos (by clear w; omega),w,List.map_cons]
  have en : rd_T34 ns e.f1 = nd ns e.f1.toNat := by unfold nd; congr 1; clear w; omega
  have ec : cst e.f1.toNat = e.f1 := by unfold cst; clear w; omega
  rw [en]
  by_cases c : (nd ns e.f1.toNat).f0 = 2
  ·rw [if_pos c,if_pos (by rw [List.length_map]; clear w; omega),List.filter_cons_of_pos (by unfold kF; exact decide_eq_true c)]
   have := ih (j + 1) (T ++ [e.f1.toNat]) (by clear w; omega) (by rw [List.length_append]; simp; clear w; omega)
   rw [List.map_append,List.map_cons,ec,List.map_nil,List.append_assoc] at this
   exact this
  ·rw [if_neg c,List.filter_cons_of_neg (by unfold kF; simpa using c)]
   exact ih (j + 1) T (by clear w; omega) (by clear w; omega)
def mrk (M : List Nat) : List Bool := (List.range 10).map (fun j => decide (j ∈ M))
theorem mrk_rd {M : List Nat} {j : Nat} (h : j < 10) : rdOf false (mrk M) (j : Int) = decide (j ∈ M) := by
 rw [rdOf_get (show j < (mrk M).length by simp [mrk]; exact h)]
 simp [mrk]
theorem mrk_set {M : List Nat} {i : Nat} : (mrk M).set i true = mrk (M ++ [i]) := by
 apply List.ext_getElem
 ·simp [mrk]
 ·intro j h1 h2
  rw [List.getElem_set]
  by_cases c : i = j
  ·subst c; simp [mrk]
  ·rw [if_neg c]
   simp [mrk]
   intro h; exact absurd h.symm c
theorem spec_folders (ns : List S34) (hns : ns.length = 10) (hl : ∀ i,i < 10 → (nd ns i).f8.length ≤ 1048576) (he : ∀ i,i < 10 → ∀ e ∈ (nd ns i).f8,0 ≤ e.f1 ∧ e.f1 ≤ 9) (d : Nat) : ∀ (k : Nat) (T M : List Nat),M.length + d = 10 → T.length ≤ 1 + 1048576 * M.length → 1100000 * (d + 1) ≤ k → GInv (kE ns) (kF ns) 10 T M →
  ∃ x4 b,spec_l7Folders.l0 k (mrk M) (T.map cst) ns = some (x4,b) ∧ (b = true → ∃ M',GInv (kE ns) (kF ns) 10 [] M' ∧ x4 = mrk M') ∧ (b = false → ∃ i rest M',GInv (kE ns) (kF ns) 10 (i :: rest) M' ∧ i ∈ M') := by
 have hE : ∀ i j,i < 10 → j ∈ kE ns i → j < 10 := by
  intro i j hi hj
  unfold kE at hj
  obtain ⟨e,h1,h2⟩ := List.mem_map.1 hj
  have := he i hi e h1
  omega
 induction d with
 | zero =>
  intro k T M hM hT hk h
  obtain ⟨k,rfl⟩ : ∃ m,k = m + 1 := ⟨k - 1,by omega⟩
  cases T with
  | nil => exact ⟨mrk M, true, by rw [spec_l7Folders.l0]; rfl, fun _ => ⟨M, h, rfl⟩, fun e => (by cases e)⟩
  | cons i T =>
   obtain ⟨a,b,_⟩ := h.inT i (by simp)
   by_cases c : i ∈ M
   ·refine ⟨mrk M,false,?_,fun e => (by cases e),fun _ => ⟨i,T,M,h,c⟩⟩
    have r0 : rd ((i :: T).map cst) 0 = (i : Int) := rfl
    have r1 : (((i :: T).map cst).drop 1) = T.map cst := rfl
    have r2 : ((((i :: T).map cst)).length : Int) = (T.length : Int) + 1 := by simp
    have hT' : T.length + 1 ≤ 1 + 1048576 * M.length := by simpa using hT
    rw [spec_l7Folders.l0]
    simp only [Option.bind_some,r0,r1,r2]
    rw [if_pos (by omega),if_pos (by omega),if_pos (by omega),if_pos (by simp; omega),if_pos (by omega),if_pos (by simp [mrk]; omega),if_pos (by rw [mrk_rd b]; simpa using c)]
   ·have := gPart_len 10 (gInv_step _ _ _ hE h c).nd (fun j hj => ((gInv_step _ _ _ hE h c).inM j hj).2.1)
    simp at this
    omega
 | succ d ih =>
  intro k T M hM hT hk h
  cases T with
  | nil =>
   obtain ⟨k,rfl⟩ : ∃ m,k = m + 1 := ⟨k - 1,by omega⟩
   exact ⟨mrk M,true,by rw [spec_l7Folders.l0]; rfl,fun _ => ⟨M,h,rfl⟩,fun e => (by cases e)⟩
  | cons i T =>
   obtain ⟨a,b,_⟩ := h.inT i (by simp)
   have hli := hl i b
   obtain ⟨m,rfl⟩ : ∃ m,k = m + (nd ns i).f8.length + 1 + 1 := ⟨k - (nd ns i).f8.length - 2,by omega⟩
   have r0 : rd ((i :: T).map cst) 0 = (i : Int) := rfl
   have r1 : (((i :: T).map cst).drop 1) = T.map cst := rfl
   have r2 : ((((i :: T).map cst)).length : Int) = (T.length : Int) + 1 := by simp
   have hT' : T.length + 1 ≤ 1 + 1048576 * M.length := by simpa using hT
   rw [spec_l7Folders.l0]
   simp only [Option.bind_some,r0,r1,r2]
   rw [if_pos (by omega),if_pos (by omega),if_pos (by omega),if_pos (by simp; omega),if_pos (by omega),if_pos (by simp [mrk]; omega),mrk_rd b]
   by_cases c : i ∈ M
   ·exact ⟨mrk M,false,by rw [if_pos (decide_eq_true c)],fun e => (by cases e),fun _ => ⟨i,T,M,h,c⟩⟩
   ·have h' := gInv_step _ _ _ hE h c
    have k' := spec_kids ns hns i b hli (he i b) (mrk (M ++ [i])) m (nd ns i).f8.length 0 T (by omega) (by omega)
    have ln : (gKids (kE ns) (kF ns) i).length ≤ 1048576 := by
     unfold gKids kE
     refine Nat.le_trans (List.length_filter_le _ _) ?_
     rw [List.length_map]; exact hli
    obtain ⟨x4,bb,g1,g2,g3⟩ := ih m (T ++ gKids (kE ns) (kF ns) i) (M ++ [i]) (by simp; omega) (by simp; omega) (by omega) h'
    refine ⟨x4,bb,?_,g2,g3⟩
    rw [if_neg (by simpa using c),← g1,show ((i : Int)).toNat = i by omega,mrk_set]
    exact k'
def condS (ns : List S34) (x3 : List Int) (x6 : List Bool) (j : Nat) : Bool := if (nd ns j).f0 = 0 then !decide (rd x3 (j : Int) > 0) else decide ((nd ns j).f4 = rd x3 (j : Int)) && (!(decide ((nd ns j).f0 = 1) && (decide ((nd ns j).f4 = 0) && decide ((nd ns j).f5 = 0))) && (decide ((nd ns j).f0 ≠ 2) || rdOf false x6 (j : Int)))
def condSF (ns : List S34) (x3 : List Int) (x6 : List Bool) (i : Nat) : Nat → Bool
 | 0 => true
 | d + 1 => condS ns x3 x6 i && condSF ns x3 x6 (i + 1) d
theorem spec_ways (ns : List S34) (x3 : List Int) (x6 : List Bool) (hns : ns.length = 10) (h3 : x3.length = 10) (h6 : x6.length = 10) (d : Nat) : ∀ (i k : Nat),i + d = 10 → 2 * (d + 1) ≤ k →
  spec_FsOk.l2 k x3 x6 true (i : Int) ns = some (condSF ns x3 x6 i d) := by
 induction d with
 | zero =>
  intro i k hi hk
  obtain ⟨k,rfl⟩ : ∃ m,k = m + 1 := ⟨k - 1,by omega⟩
  rw [spec_FsOk.l2,if_neg (by omega)]; rfl
 | succ d ih =>
  intro i k hi hk
  obtain ⟨m,rfl⟩ : ∃ m,k = m + 1 + 1 := ⟨k - 2,by omega⟩
  have w : wrap64 ((i : Int) + 1) = ((i + 1 : Nat) : Int) := wsucc (show i < 10 by omega) (by omega)
  have nx := ih (i + 1) m (by clear w; omega) (by clear w; omega)
  rw [← w] at nx
  clear w ih
  have eq0 : rd_T34 ns (i : Int) = nd ns i := rfl
  rw [spec_FsOk.l2,if_pos (by omega),if_pos rfl,if_pos (by omega),if_pos (by omega),if_pos (by omega),eq0]
  rw [show condSF ns x3 x6 i (d + 1) = (condS ns x3 x6 i && condSF ns x3 x6 (i + 1) d) from rfl]
  unfold condS
  have j3 : ∀ b,spec_FsOk.j3 (m + 1) x3 x6 true (i : Int) b ns = some (!b && condSF ns x3 x6 (i + 1) d) := by
   intro b
   rw [spec_FsOk.j3,nx]
   cases b <;> rfl
  simp only [j3]
  clear j3 nx
  generalize nd ns i = z
  generalize condSF ns x3 x6 (i + 1) d = C
  have p6 : (i : Int) < (x6.length : Int) := by omega
  generalize rd x3 (i : Int) = L
  by_cases c0 : z.f0 = 0
  ·by_cases cl : L > 0 <;> simp [c0,cl]
  ·by_cases c1 : z.f4 = L
   ·by_cases c2 : z.f0 = 1
    ·by_cases c3 : z.f4 = 0
     ·by_cases c4 : z.f5 = 0
      ·simp [c2,c3,c4,← c1]
      ·simp [c2,c3,c4,← c1]
     ·simp [c2,c3,← c1]
    ·by_cases c3 : z.f0 = 2
     ·cases rdOf false x6 (i : Int) <;> simp [c3,← c1,p6]
     ·simp [c0,c2,c3,← c1]
   ·simp [c0,c1]
/-! ### FsOk: what the loops have counted, and that both say alike -/
theorem rd_set {xs : List Int} {t : Nat} {v : Int} {q : Nat} (ht : t < xs.length) : rd (xs.set t v) (q : Int) = if t = q then v else rd xs (q : Int) := by
 unfold rd
 rw [show ((q : Int)).toNat = q by omega,List.getD_eq_getElem?_getD,List.getD_eq_getElem?_getD,List.getElem?_set]
 by_cases c : t = q
 ·subst c; simp [ht]
 ·simp [c]
theorem bumpE_rd (es : List S47) : ∀ (xs : List Int) (B : Int),xs.length = 10 → (∀ e ∈ es,0 ≤ e.f1 ∧ e.f1 ≤ 9) → (∀ q : Nat,q < 10 → 0 ≤ rd xs (q : Int) ∧ rd xs (q : Int) ≤ B) → B + (es.length : Int) ≤ 4611686018427387904 → ∀ q : Nat,q < 10 → rd (bumpE xs es) (q : Int) = rd xs (q : Int) + ((es.map (fun e => e.f1.toNat)).count q : Nat) := by
 induction es with
 | nil => intro xs B _ _ _ _ q _; simp [bumpE]
 | cons e es ih =>
  intro xs B hx he hB hl q hq
  obtain ⟨a,b⟩ := he e (by simp)
  rw [List.length_cons] at hl
  have ht : e.f1.toNat < xs.length := by omega
  have re : rd xs e.f1 = rd xs ((e.f1.toNat : Nat) : Int) := by congr 1; omega
  have hb := hB e.f1.toNat (by omega)
  have w : wrap64 (rd xs e.f1 + 1) = rd xs e.f1 + 1 := w64 (by omega) (by omega)
  unfold bumpE
  rw [ih (xs.set e.f1.toNat (wrap64 (rd xs e.f1 + 1))) (B + 1) (by rw [List.length_set]; exact hx) (fun e' h => he e' (by simp [h])) (by
   intro q' hq'
   rw [rd_set ht]
   have := hB q' hq'
   by_cases c : e.f1.toNat = q'
   ·rw [if_pos c,w,re]; omega
   ·rw [if_neg c]; omega) (by omega) q hq,rd_set ht,List.map_cons,List.count_cons]
  by_cases c : e.f1.toNat = q
  ·rw [if_pos c,w,re,c]; simp; omega
  ·rw [if_neg c]; simp [c]
theorem bumpF_len (ns : List S34) : ∀ (d i : Nat) (xs : List Int),(bumpF ns xs i d).length = xs.length := by
 intro d
 induction d with
 | zero => intro i xs; rfl
 | succ d ih => intro i xs; unfold bumpF; rw [ih, bumpE_len]
theorem markF_len (ns : List S34) : ∀ (d i : Nat) (xs : List Int),(markF ns xs i d).length = xs.length := by
 intro d
 induction d with
 | zero => intro i xs; rfl
 | succ d ih => intro i xs; unfold markF; rw [ih, markE_len]
theorem bumpF_rd (ns : List S34) (hl : ∀ i,i < 10 → (nd ns i).f8.length ≤ 1048576) (he : ∀ i,i < 10 → ∀ e ∈ (nd ns i).f8,0 ≤ e.f1 ∧ e.f1 ≤ 9) (d : Nat) : ∀ (i : Nat) (xs : List Int) (B : Int),i + d = 10 → xs.length = 10 → (∀ q : Nat,q < 10 → 0 ≤ rd xs (q : Int) ∧ rd xs (q : Int) ≤ B) → B + 1048576 * (d : Int) ≤ 4000000000 → ∀ q : Nat,q < 10 → rd (bumpF ns xs i d) (q : Int) = rd xs (q : Int) + (((List.range' i d).flatMap (kE ns)).count q : Nat) := by
 induction d with
 | zero => intro i xs B _ _ _ _ q _; simp [bumpF]
 | succ d ih =>
  intro i xs B hi hx hB hb q hq
  have hli := hl i (by omega)
  have e1 := bumpE_rd (nd ns i).f8 xs B hx (he i (by omega)) hB (by omega)
  have cl : ∀ q,((nd ns i).f8.map (fun e => e.f1.toNat)).count q ≤ 1048576 := by
   intro q
   refine Nat.le_trans List.count_le_length ?_
   rw [List.length_map]; exact hli
  unfold bumpF
  rw [ih (i + 1) (bumpE xs (nd ns i).f8) (B + 1048576) (by omega) (by rw [bumpE_len]; exact hx) (by
   intro q' hq'
   rw [e1 q' hq']
   have := hB q' hq'
   have := cl q'
   omega) (by omega) q hq,e1 q hq,List.range'_succ,List.flatMap_cons,List.count_append]
  unfold kE
  omega
theorem markE_rd (v : Int) (es : List S47) : ∀ (xs : List Int),xs.length = 10 → (∀ e ∈ es,0 ≤ e.f1 ∧ e.f1 ≤ 9) → ∀ q : Nat,q < 10 → rd (markE xs v es) (q : Int) = if q ∈ es.map (fun e => e.f1.toNat) then v else rd xs (q : Int) := by
 induction es with
 | nil => intro xs _ _ q _; simp [markE]
 | cons e es ih =>
  intro xs hx he q hq
  obtain ⟨a,b⟩ := he e (by simp)
  unfold markE
  rw [ih _ (by rw [List.length_set]; exact hx) (fun e' h => he e' (by simp [h])) q hq,rd_set (by omega),List.map_cons]
  simp only [List.mem_cons]
  by_cases c : q ∈ es.map (fun e => e.f1.toNat)
  ·rw [if_pos c,if_pos (Or.inr c)]
  ·rw [if_neg c]
   by_cases c2 : e.f1.toNat = q
   ·rw [if_pos c2,if_pos (Or.inl c2.symm)]
   ·rw [if_neg c2,if_neg]
    rintro (h | h)
    ·exact c2 h.symm
    ·exact c h
theorem markF_rd (ns : List S34) (he : ∀ i,i < 10 → ∀ e ∈ (nd ns i).f8,0 ≤ e.f1 ∧ e.f1 ≤ 9) (d : Nat) : ∀ (i : Nat) (xs : List Int),i + d = 10 → xs.length = 10 → (∀ q : Nat,q < 10 → 0 ≤ rd xs (q : Int) ∧ rd xs (q : Int) < 10) → (∀ q i' : Nat,q < 10 → i' < i → q ∈ kE ns i' → q ∈ kE ns (upA xs q)) →
  (∀ q : Nat,q < 10 → 0 ≤ rd (markF ns xs i d) (q : Int) ∧ rd (markF ns xs i d) (q : Int) < 10) ∧ (∀ q i' : Nat,q < 10 → i' < 10 → q ∈ kE ns i' → q ∈ kE ns (upA (markF ns xs i d) q)) := by
 induction d with
 | zero =>
  intro i xs hi hx h1 h2; obtain rfl : i = 10 := by omega
  exact ⟨h1,h2⟩
 | succ d ih =>
  intro i xs hi hx h1 h2
  have e1 := markE_rd (i : Int) (nd ns i).f8 xs hx (he i (by omega))
  unfold markF
  refine ih (i + 1) _ (by omega) (by rw [markE_len]; exact hx) ?_ ?_
  ·intro q hq
   rw [e1 q hq]
   by_cases c : q ∈ (nd ns i).f8.map (fun e => e.f1.toNat)
   ·rw [if_pos c]; omega
   ·rw [if_neg c]; exact h1 q hq
  ·intro q i' hq hi' hm
   unfold upA
   rw [e1 q hq]
   by_cases c : q ∈ (nd ns i).f8.map (fun e => e.f1.toNat)
   ·rw [if_pos c,show ((i : Int)).toNat = i by omega]; exact c
   ·rw [if_neg c]
    by_cases c2 : i' = i
    ·subst c2; exact absurd hm c
    ·exact h2 q i' hq (by omega) hm
theorem allF {f : Nat → Bool} {F : Nat → Nat → Bool} (h0 : ∀ i,F i 0 = true) (hs : ∀ i d,F i (d + 1) = (f i && F (i + 1) d)) : ∀ d i,F i d = true ↔ ∀ q,i ≤ q → q < i + d → f q = true := by
 intro d
 induction d with
 | zero =>
  intro i; constructor
  ·intro _ q h1 h2; omega
  ·intro _; exact h0 i
 | succ d ih =>
  intro i
  rw [hs,Bool.and_eq_true,ih]
  constructor
  ·rintro ⟨a,b⟩ q h1 h2
   by_cases c : i = q
   ·subst c; exact a
   ·exact b q (by omega) (by omega)
  ·intro h
   exact ⟨h i (by omega) (by omega),fun q h1 h2 => h q (by omega) (by omega)⟩
theorem bnot {b : Bool} : (!b) = true ↔ ¬ (b = true) := by cases b <;> simp
theorem condI_iff {ns : List S34} {x3 x4 : List Int} {j : Nat} : condI ns x3 x4 j = true ↔ ((nd ns j).f0 = 0 ∨ ((nd ns j).f4 = rd x3 (j : Int) ∧ ¬ ((nd ns j).f0 = 1 ∧ (nd ns j).f4 = 0 ∧ (nd ns j).f5 = 0) ∧ ¬ ((nd ns j).f0 = 2 ∧ 0 < j ∧ (nd ns j).f4 ≠ 1) ∧ ¬ (j = 0 ∧ (nd ns j).f4 ≠ 0) ∧ ((nd ns j).f0 ≠ 2 ∨ gUp (upA x4) 11 j = true))) := by
 unfold condI
 by_cases c : (nd ns j).f0 = 0
 ·simp [c]
 ·rw [if_neg c]
  simp only [c,false_or,bnot,Bool.and_eq_true,Bool.or_eq_true,decide_eq_true_eq]
theorem condS_iff {ns : List S34} {x3 : List Int} {x6 : List Bool} {j : Nat} : condS ns x3 x6 j = true ↔ (((nd ns j).f0 = 0 ∧ ¬ rd x3 (j : Int) > 0) ∨ ((nd ns j).f0 ≠ 0 ∧ ((nd ns j).f4 = rd x3 (j : Int) ∧ ¬ ((nd ns j).f0 = 1 ∧ (nd ns j).f4 = 0 ∧ (nd ns j).f5 = 0) ∧ ((nd ns j).f0 ≠ 2 ∨ rdOf false x6 (j : Int) = true)))) := by
 unfold condS
 by_cases c : (nd ns j).f0 = 0
 ·simp [c]
 ·rw [if_neg c]
  simp only [c,ne_eq,not_false_eq_true,true_and,false_and,false_or,bnot,Bool.and_eq_true,Bool.or_eq_true,decide_eq_true_eq]
theorem entIF_iff {ns : List S34} {es : List S47} : entIF ns es 0 es.length = true ↔ ∀ q,q < es.length → entI ns es q = true := by
 rw [allF (f := entI ns es) (F := entIF ns es) (fun _ => rfl) (fun _ _ => rfl)]
 exact ⟨fun h q hq => h q (by omega) (by omega),fun h q _ hq => h q (by omega)⟩
theorem entSF_iff {es : List S47} : entSF es 0 es.length = true ↔ ∀ q,q < es.length → entS es q = true := by
 rw [allF (f := entS es) (F := entSF es) (fun _ => rfl) (fun _ _ => rfl)]
 exact ⟨fun h q hq => h q (by omega) (by omega),fun h q _ hq => h q (by omega)⟩
theorem okI_iff {ns : List S34} {i : Nat} : okI ns i = true ↔ (((nd ns i).f0 = 0 ∧ plainB (nd ns i) = true) ∨ ((nd ns i).f0 ≠ 0 ∧ nodeA (nd ns i) = true ∧ nodeB (nd ns i) = true ∧ ∀ q,q < (nd ns i).f8.length → entI ns (nd ns i).f8 q = true)) := by
 unfold okI
 by_cases c : (nd ns i).f0 = 0
 ·simp [c]
 ·rw [if_neg c]
  simp only [c,ne_eq,not_false_eq_true,true_and,false_and,false_or,Bool.and_eq_true,entIF_iff]
theorem nodeS_iff {z : S34} : nodeS z = true ↔ ((z.f0 = 0 ∧ plainB z = true) ∨ (z.f0 ≠ 0 ∧ nodeA z = true ∧ nodeL z = true ∧ nodeB z = true ∧ ∀ q,q < z.f8.length → entS z.f8 q = true)) := by
 unfold nodeS
 by_cases c : z.f0 = 0
 ·simp [c]
 ·rw [if_neg c]
  simp only [c,ne_eq,not_false_eq_true,true_and,false_and,false_or,Bool.and_eq_true,entSF_iff]
theorem node_two {z : S34} (hA : nodeA z = true) (hB : nodeB z = true) : z.f8.length ≤ 6 ∧ (z.f8 ≠ [] → z.f0 = 2) := by
 unfold nodeA at hA
 unfold nodeB at hB
 simp only [Bool.and_eq_true,decide_eq_true_eq] at hA
 by_cases c : z.f0 = 1
 ·rw [if_pos c] at hB
  simp only [Bool.and_eq_true,decide_eq_true_eq] at hB
  exact ⟨by omega,fun h => absurd (List.eq_nil_of_length_eq_zero hB.2) h⟩
 ·rw [if_neg c] at hB
  simp only [Bool.and_eq_true,decide_eq_true_eq] at hB
  exact ⟨hB.2.2,fun _ => by omega⟩
/-- what both ask of every node, as far as the names go -/
structure Names (ns : List S34) : Prop where
 rng : ∀ i,i < 10 → ∀ e ∈ (nd ns i).f8,0 ≤ e.f1 ∧ e.f1 ≤ 9
 six : ∀ i,i < 10 → (nd ns i).f8.length ≤ 6
 two : ∀ i,i < 10 → (nd ns i).f8 ≠ [] → (nd ns i).f0 = 2
theorem names_I {ns : List S34} (h : ∀ i,i < 10 → okI ns i = true) : Names ns where
 rng := by
  intro i hi e he
  rcases okI_iff.1 (h i hi) with ⟨_,b⟩ | ⟨_,_,_,b⟩
  ·rw [plain_len b] at he; cases he
  ·obtain ⟨j,hj,rfl⟩ := mem_rd he
   have := b j hj
   unfold entI at this
   simp only [Bool.and_eq_true,decide_eq_true_eq] at this
   exact this.2.1
 six := by
  intro i hi
  rcases okI_iff.1 (h i hi) with ⟨_,b⟩ | ⟨_,a,b,_⟩
  ·rw [plain_len b]; exact Nat.zero_le _
  ·exact (node_two a b).1
 two := by
  intro i hi hn
  rcases okI_iff.1 (h i hi) with ⟨_,b⟩ | ⟨_,a,b,_⟩
  ·exact absurd (plain_len b) hn
  ·exact (node_two a b).2 hn
theorem names_S {ns : List S34} (h : ∀ i,i < 10 → nodeS (nd ns i) = true) : Names ns where
 rng := by
  intro i hi e he
  have := nodeS_ents (h i hi) e he
  omega
 six := by
  intro i hi
  rcases nodeS_iff.1 (h i hi) with ⟨_,b⟩ | ⟨_,a,_,b,_⟩
  ·rw [plain_len b]; exact Nat.zero_le _
  ·exact (node_two a b).1
 two := by
  intro i hi hn
  rcases nodeS_iff.1 (h i hi) with ⟨_,b⟩ | ⟨_,a,_,b,_⟩
  ·exact absurd (plain_len b) hn
  ·exact (node_two a b).2 hn
theorem kE_out {ns : List S34} (hns : ns.length = 10) {i : Nat} (h : 10 ≤ i) : kE ns i = [] := by
 unfold kE nd rd_T34
 rw [List.getD_eq_getElem?_getD,List.getElem?_eq_none (by omega)]; rfl
theorem kE_in {ns : List S34} (hns : ns.length = 10) {i j : Nat} (h : j ∈ kE ns i) : i < 10 := by
 by_cases c : i < 10
 ·exact c
 ·rw [kE_out hns (by omega)] at h; cases h
theorem kE_lt {ns : List S34} (hns : ns.length = 10) (hN : Names ns) {i j : Nat} (h : j ∈ kE ns i) : j < 10 := by
 have hi := kE_in hns h
 unfold kE at h
 obtain ⟨e,h1,h2⟩ := List.mem_map.1 h
 have := hN.rng i hi e h1
 omega
theorem kE_two {ns : List S34} (hns : ns.length = 10) (hN : Names ns) {i j : Nat} (h : j ∈ kE ns i) : kF ns i = true := by
 have hi := kE_in hns h
 unfold kF
 rw [decide_eq_true_eq]
 refine hN.two i hi ?_
 intro e
 unfold kE at h
 rw [e] at h; cases h
theorem kE_mem {ns : List S34} {i q : Nat} (h : q < (nd ns i).f8.length) : (rd_T47 (nd ns i).f8 (q : Int)).f1.toNat ∈ kE ns i := by
 unfold kE
 have e := drop_rd h
 exact List.mem_map.2 ⟨_,List.mem_of_mem_drop (by rw [e]; exact List.mem_cons_self),rfl⟩
theorem kCnt_le {ns : List S34} (hN : Names ns) : ∀ (d i q : Nat),i + d ≤ 10 → ((List.range' i d).flatMap (kE ns)).count q ≤ 6 * d := by
 intro d
 induction d with
 | zero => intro i q _; simp
 | succ d ih =>
  intro i q h
  rw [List.range'_succ,List.flatMap_cons,List.count_append]
  have h1 := ih (i + 1) q (by omega)
  have h2 : (kE ns i).count q ≤ 6 := by
   refine Nat.le_trans List.count_le_length ?_
   unfold kE
   rw [List.length_map]; exact hN.six i (by omega)
  omega
/-! ### FsOk: both ends meet -/
theorem rd_nd {ns : List S34} {a : Int} (h : 0 ≤ a) : rd_T34 ns a = nd ns a.toNat := by unfold nd; congr 1; omega
section Ends
variable {ns : List S34} {X A : List Int} (hns : ns.length = 10)
 (hX : ∀ q : Nat,q < 10 → rd X (q : Int) = ((gCnt (kE ns) 10 q : Nat) : Int))
 (hA : ∀ q : Nat,q < 10 → 0 ≤ rd A (q : Int) ∧ rd A (q : Int) < 10)
 (hA2 : ∀ q i' : Nat,q < 10 → i' < 10 → q ∈ kE ns i' → q ∈ kE ns (upA A q))
include hns hX hA hA2
omit hX in
theorem ends_A (hN : Names ns) : ∀ j,0 < gCnt (kE ns) 10 j → upA A j < 10 ∧ j ∈ kE ns (upA A j) := by
 intro j hj
 obtain ⟨i,h1,h2⟩ := (gCnt_pos (kE ns) 10).1 hj
 have hj10 := kE_lt hns hN h2
 exact ⟨by have := hA j hj10; unfold upA; omega,hA2 j i hj10 h1 h2⟩
theorem ends_I (hok : ∀ i,i < 10 → okI ns i = true) (hK : (nd ns 0).f0 = 2) (hc : ∀ j,j < 10 → condI ns X A j = true) :
  (∀ i,i < 10 → nodeS (nd ns i) = true) ∧ (∀ i rest M,GInv (kE ns) (kF ns) 10 (i :: rest) M → i ∉ M) ∧ (∀ M,GInv (kE ns) (kF ns) 10 [] M → ∀ j,j < 10 → condS ns X (mrk M) j = true) := by
 have hN := names_I hok
 have z0 : gCnt (kE ns) 10 0 = 0 := by
  rcases condI_iff.1 (hc 0 (by omega)) with h | ⟨h1,_,_,h2,_⟩
  ·omega
  ·have e := hX 0 (by omega)
   have : (nd ns 0).f4 = 0 := by
    by_cases c : (nd ns 0).f4 = 0
    ·exact c
    ·exact absurd ⟨rfl,c⟩ h2
   rw [← h1,this] at e
   omega
 have one : ∀ j,j < 10 → kF ns j = true → 0 < j → gCnt (kE ns) 10 j = 1 := by
  intro j hj hF h0
  unfold kF at hF
  rw [decide_eq_true_eq] at hF
  rcases condI_iff.1 (hc j hj) with h | ⟨h1,_,h3,_,_⟩
  ·omega
  ·have e := hX j hj
   have : (nd ns j).f4 = 1 := by
    by_cases c : (nd ns j).f4 = 1
    ·exact c
    ·exact absurd ⟨hF,h0,c⟩ h3
   rw [← h1,this] at e
   omega
 refine ⟨?_,?_,?_⟩
 ·intro i hi
  rw [nodeS_iff]
  rcases okI_iff.1 (hok i hi) with h | ⟨h0,h1,h2,h3⟩
  ·exact Or.inl h
  ·refine Or.inr ⟨h0,h1,?_,h2,?_⟩
   ·rcases condI_iff.1 (hc i hi) with h | ⟨h4,_⟩
    ·exact absurd h h0
    ·have e := hX i hi
     have b : gCnt (kE ns) 10 i ≤ 6 * 10 := by unfold gCnt; rw [List.range_eq_range']; exact kCnt_le hN 10 0 i (by omega)
     unfold nodeL
     rw [decide_eq_true_eq]
     omega
   ·intro q hq
    have e := h3 q hq
    unfold entI at e
    unfold entS
    simp only [Bool.and_eq_true,decide_eq_true_eq] at e ⊢
    refine ⟨e.1,?_,e.2.1.2⟩
    have m := kE_mem hq
    by_cases c : (rd_T47 (nd ns i).f8 (q : Int)).f1 = 0
    ·rw [c] at m
     have : 0 < gCnt (kE ns) 10 0 := (gCnt_pos (kE ns) 10).2 ⟨i,hi,m⟩
     omega
    ·have := e.2.1.1
     omega
 ·intro i rest M h
  exact gOnce (kE ns) (kF ns) 10 h z0 one
 ·intro M h j hj
  rw [condS_iff]
  by_cases h0 : (nd ns j).f0 = 0
  ·refine Or.inl ⟨h0,?_⟩
   rw [hX j hj]
   intro hp
   obtain ⟨i,hi,hm⟩ := (gCnt_pos (kE ns) 10).1 (show 0 < gCnt (kE ns) 10 j by omega)
   unfold kE at hm
   obtain ⟨e,g1,g2⟩ := List.mem_map.1 hm
   obtain ⟨q,hq,rfl⟩ := mem_rd g1
   rcases okI_iff.1 (hok i hi) with ⟨_,b⟩ | ⟨_,_,_,b⟩
   ·rw [plain_len b] at hq; cases hq
   ·have e := b q hq
    unfold entI at e
    simp only [Bool.and_eq_true,decide_eq_true_eq] at e
    refine e.2.2 ?_
    rw [rd_nd e.2.1.1,g2,h0]
  ·rcases condI_iff.1 (hc j hj) with h1 | ⟨h1,h2,h3,h4,h5⟩
   ·exact absurd h1 h0
   ·refine Or.inr ⟨h0,h1,h2,?_⟩
    by_cases c2 : (nd ns j).f0 = 2
    ·refine Or.inr ?_
     rw [mrk_rd hj,decide_eq_true_eq]
     rcases h5 with h5 | h5
     ·exact absurd c2 h5
     ·have hF : kF ns j = true := by unfold kF; exact decide_eq_true c2
      obtain ⟨k,hk⟩ := gUp_no (kE ns) (kF ns) 10 (ends_A hns hA hA2 hN) (fun i j h => kE_two hns hN h) (fun j a b c => one j c a b) 11 j hF hj h5
      exact gMet (kE ns) (kF ns) 10 h (fun i j h => kE_two hns hN h) hk hF
    ·exact Or.inl c2
theorem ends_S (hok : ∀ i,i < 10 → nodeS (nd ns i) = true) {M : List Nat} (h : GInv (kE ns) (kF ns) 10 [] M) (hc : ∀ j,j < 10 → condS ns X (mrk M) j = true) :
  (∀ i,i < 10 → okI ns i = true) ∧ (∀ j,j < 10 → condI ns X A j = true) := by
 have hN := names_S hok
 have all : ∀ j,j < 10 → kF ns j = true → j ∈ M := by
  intro j hj hF
  unfold kF at hF
  rw [decide_eq_true_eq] at hF
  rcases condS_iff.1 (hc j hj) with ⟨h0,_⟩ | ⟨_,_,_,h1⟩
  ·omega
  ·rcases h1 with h1 | h1
   ·exact absurd hF h1
   ·rw [mrk_rd hj,decide_eq_true_eq] at h1; exact h1
 have two : ∀ i j,j ∈ kE ns i → kF ns i = true := fun i j h => kE_two hns hN h
 have one : ∀ j,kF ns j = true → 0 < j → j < 10 → gCnt (kE ns) 10 j = 1 := fun j a b c => gOne (kE ns) (kF ns) 10 h two all a c b
 have z0 : gCnt (kE ns) 10 0 = 0 := by
  by_cases c : gCnt (kE ns) 10 0 = 0
  ·exact c
  ·obtain ⟨i,hi,hm⟩ := (gCnt_pos (kE ns) 10).1 (show 0 < gCnt (kE ns) 10 0 by omega)
   unfold kE at hm
   obtain ⟨e,g1,g2⟩ := List.mem_map.1 hm
   have := nodeS_ents (hok i hi) e g1
   omega
 refine ⟨?_,?_⟩
 ·intro i hi
  rw [okI_iff]
  rcases nodeS_iff.1 (hok i hi) with h | ⟨h0,h1,_,h2,h3⟩
  ·exact Or.inl h
  ·refine Or.inr ⟨h0,h1,h2,?_⟩
   intro q hq
   have e := h3 q hq
   unfold entS at e
   unfold entI
   simp only [Bool.and_eq_true,decide_eq_true_eq] at e ⊢
   refine ⟨e.1,⟨by omega,e.2.2⟩,?_⟩
   have m := kE_mem hq
   have pos : 0 < gCnt (kE ns) 10 (rd_T47 (nd ns i).f8 (q : Int)).f1.toNat := (gCnt_pos (kE ns) 10).2 ⟨i,hi,m⟩
   rw [rd_nd (show 0 ≤ (rd_T47 (nd ns i).f8 (q : Int)).f1 by omega)]
   have l10 : (rd_T47 (nd ns i).f8 (q : Int)).f1.toNat < 10 := by omega
   rcases condS_iff.1 (hc _ l10) with ⟨_,h4⟩ | ⟨h4,_⟩
   ·rw [hX _ l10] at h4; omega
   ·exact h4
 ·intro j hj
  rw [condI_iff]
  rcases condS_iff.1 (hc j hj) with ⟨h0,_⟩ | ⟨h0,h1,h2,h3⟩
  ·exact Or.inl h0
  ·refine Or.inr ⟨h1,h2,?_,?_,?_⟩
   ·rintro ⟨a,b,c⟩
    have e := one j (by unfold kF; exact decide_eq_true a) b hj
    have e2 := hX j hj
    omega
   ·rintro ⟨a,b⟩
    have e2 := hX j hj
    rw [a,z0] at e2
    rw [a] at h1 b
    omega
   ·by_cases c2 : (nd ns j).f0 = 2
    ·refine Or.inr ?_
     have hF : kF ns j = true := by unfold kF; exact decide_eq_true c2
     obtain ⟨k,h4,h5⟩ := gUp_of (kE ns) (kF ns) 10 h (all j hj hF)
     exact gUp_yes (kE ns) (kF ns) 10 (ends_A hns hA hA2 hN) (fun i h => kE_out hns h) two one (fun i j h => kE_lt hns hN h) h5 11 hF (by omega)
    ·exact Or.inl c2
end Ends
/-! ### FsOk: the whole -/
theorem z10 (q : Nat) (hq : q < 10) : rd (List.replicate 10 0) (q : Int) = 0 := by
 unfold rd
 rw [show ((q : Int)).toNat = q by omega,List.getD_eq_getElem?_getD,List.getElem?_replicate,if_pos hq]; rfl
def fX (ns : List S34) : List Int := bumpF ns (List.replicate 10 0) 0 10
def fA (ns : List S34) : List Int := markF ns (List.replicate 10 0) 0 10
theorem fX_rd {ns : List S34} (hN : Names ns) : ∀ q : Nat,q < 10 → rd (fX ns) (q : Int) = ((gCnt (kE ns) 10 q : Nat) : Int) := by
 intro q hq
 unfold fX
 rw [bumpF_rd ns (fun i hi => by have := hN.six i hi; omega) hN.rng 10 0 (List.replicate 10 0) 0 rfl rfl (fun q hq => by rw [z10 q hq]; omega) (by omega) q hq,z10 q hq]
 unfold gCnt
 rw [List.range_eq_range']
 omega
theorem fA_rd {ns : List S34} (hN : Names ns) : (∀ q : Nat,q < 10 → 0 ≤ rd (fA ns) (q : Int) ∧ rd (fA ns) (q : Int) < 10) ∧ (∀ q i' : Nat,q < 10 → i' < 10 → q ∈ kE ns i' → q ∈ kE ns (upA (fA ns) q)) :=
 markF_rd ns hN.rng 10 0 (List.replicate 10 0) rfl rfl (fun q hq => by rw [z10 q hq]; omega) (fun q i' _ h => absurd h (Nat.not_lt_zero _))
theorem spec_sum (ns : List S34) (hns : ns.length = 10) (hl : ∀ i,i < 10 → (nd ns i).f8.length ≤ 1048576) (hm : ∀ i,i < 10 → ∀ e ∈ (nd ns i).f8,e.f0.size ≤ 1048576) {k : Nat} (hk : 80000000 ≤ k) :
  ∃ b,spec_FsOk.f k ns = some b ∧ (b = true → (∀ i,i < 10 → nodeS (nd ns i) = true) ∧ (nd ns 0).f0 = 2 ∧ ∃ M,GInv (kE ns) (kF ns) 10 [] M ∧ ∀ j,j < 10 → condS ns (fX ns) (mrk M) j = true) ∧
   ((∀ i,i < 10 → nodeS (nd ns i) = true) → (nd ns 0).f0 = 2 → (∀ i rest M,GInv (kE ns) (kF ns) 10 (i :: rest) M → i ∉ M) → (∀ M,GInv (kE ns) (kF ns) 10 [] M → ∀ j,j < 10 → condS ns (fX ns) (mrk M) j = true) → b = true) := by
 obtain ⟨m',g1,g2⟩ := spec_nodes ns hns hl hm 10 0 k (List.replicate 10 0) rfl (by omega) rfl
 obtain ⟨m,rfl⟩ : ∃ m,m' = m + 1 := ⟨m' - 1,by omega⟩
 have e : spec_FsOk.f k ns = if nodeSF ns 0 10 = true then spec_FsOk.l0 (m + 1) (fX ns) 10 ns else some false := by
  unfold spec_FsOk.f
  rw [if_pos (by omega),if_pos (by decide)]
  exact g2
 have hall : nodeSF ns 0 10 = true ↔ ∀ i,i < 10 → nodeS (nd ns i) = true := by
  rw [allF (f := fun i => nodeS (nd ns i)) (F := nodeSF ns) (fun _ => rfl) (fun _ _ => rfl)]
  exact ⟨fun h q hq => h q (by omega) (by omega),fun h q _ hq => h q (by omega)⟩
 rw [e]
 by_cases c : nodeSF ns 0 10 = true
 ·have hok := hall.1 c
  rw [if_pos c,spec_FsOk.l0,if_neg (by omega),if_pos (by omega),show rd_T34 ns 0 = nd ns 0 from rfl]
  by_cases c2 : (nd ns 0).f0 = 2
  ·have hN := names_S hok
   obtain ⟨x4,b,h1,h2,h3⟩ := spec_folders ns hns hl hN.rng 10 m [0] [] rfl (by simp) (by omega) (gInv_start (kE ns) (kF ns) 10 (by unfold kF; exact decide_eq_true c2) (by omega))
   have hf : spec_l7Folders.f m ns = some (x4,b) := by
    unfold spec_l7Folders.f
    rw [if_pos (by omega),if_pos (by omega),show ((ns.length : Int)).toNat = 10 by omega]
    exact h1
   rw [if_pos c2,hf,Option.bind_some]
   cases b with
   | false =>
    refine ⟨false,?_,fun h => (by cases h),?_⟩
    ·obtain ⟨m,rfl⟩ : ∃ q,m = q + 1 := ⟨m - 1,by omega⟩
     show spec_FsOk.l2 (m + 1) (fX ns) x4 false 0 ns = some false
     rw [spec_FsOk.l2]
     simp
    ·intro _ _ h _
     obtain ⟨i,rest,M,g,g'⟩ := h3 rfl
     exact absurd g' (h i rest M g)
   | true =>
    obtain ⟨M,g,rfl⟩ := h2 rfl
    have w := spec_ways ns (fX ns) (mrk M) hns (by unfold fX; rw [bumpF_len]; rfl) (by simp [mrk]) 10 0 m rfl (by omega)
    have hc : condSF ns (fX ns) (mrk M) 0 10 = true ↔ ∀ i,i < 10 → condS ns (fX ns) (mrk M) i = true := by
     rw [allF (f := condS ns (fX ns) (mrk M)) (F := condSF ns (fX ns) (mrk M)) (fun _ => rfl) (fun _ _ => rfl)]
     exact ⟨fun h q hq => h q (by omega) (by omega),fun h q _ hq => h q (by omega)⟩
    exact ⟨condSF ns (fX ns) (mrk M) 0 10,w,fun h => ⟨hok,c2,M,g,hc.1 h⟩,fun _ _ _ h => hc.2 (h M g)⟩
  ·rw [if_neg c2]
   exact ⟨false,rfl,fun h => (by cases h),fun _ h => absurd h c2⟩
 ·rw [if_neg c]
  exact ⟨false,rfl,fun h => (by cases h),fun h => absurd (hall.2 h) c⟩
theorem fs_all (ns : List S34) (hl : ∀ i,i < 10 → (nd ns i).f8.length ≤ 1048576) (hm : ∀ i,i < 10 → ∀ e ∈ (nd ns i).f8,e.f0.size ≤ 1048576) {k : Nat} (hk : 80000000 ≤ k) : ∃ b,impl_FsOk.f k ns = some b ∧ spec_FsOk.f k ns = some b := by
 by_cases hns : ns.length = 10
 ·obtain ⟨b,s1,s2,s3⟩ := spec_sum ns hns hl hm hk
  obtain ⟨k,rfl⟩ : ∃ m,k = m + 1 := ⟨k - 1,by omega⟩
  refine ⟨b,?_,s1⟩
  clear s1
  obtain ⟨m',g1,g2⟩ := impl_nodes ns hns hl 10 0 k (List.replicate 10 0) (List.replicate 10 0) rfl (by omega) rfl rfl
  have hI : impl_FsOk.f (k + 1) ns = if ((nd ns 0).f0 = 2) ∧ okIF ns 0 10 = true then impl_FsOk.l2 m' (fX ns) (fA ns) ns 10 0 else some false := by
   unfold impl_FsOk.f
   rw [if_pos (by omega),if_pos (by omega),impl_FsOk.j0]
   have e0 : rd_T34 ns 0 = nd ns 0 := rfl
   have e10 : (ns.length : Int) = 10 := by omega
   rw [e0,e10]
   by_cases c : (nd ns 0).f0 = 2
   ·rw [if_neg (by simp [c]),if_pos (by decide)]
    refine g2.trans ?_
    simp [c,fX,fA]
   ·rw [if_pos (by simp [c]),if_neg (fun h => c h.1)]
  have hall : okIF ns 0 10 = true ↔ ∀ i,i < 10 → okI ns i = true := by
   rw [allF (f := okI ns) (F := okIF ns) (fun _ => rfl) (fun _ _ => rfl)]
   exact ⟨fun h q hq => h q (by omega) (by omega),fun h q _ hq => h q (by omega)⟩
  rw [hI]
  by_cases c : ((nd ns 0).f0 = 2) ∧ okIF ns 0 10 = true
  ·have hok := hall.1 c.2
   have hN := names_I hok
   have w := impl_ways ns (fX ns) (fA ns) hns (by unfold fX; rw [bumpF_len]; rfl) (by unfold fA; rw [markF_len]; rfl) (fA_rd hN).1 10 0 m' rfl (by omega)
   have hc : condIF ns (fX ns) (fA ns) 0 10 = true ↔ ∀ i,i < 10 → condI ns (fX ns) (fA ns) i = true := by
    rw [allF (f := condI ns (fX ns) (fA ns)) (F := condIF ns (fX ns) (fA ns)) (fun _ => rfl) (fun _ _ => rfl)]
    exact ⟨fun h q hq => h q (by omega) (by omega),fun h q _ hq => h q (by omega)⟩
   rw [if_pos c]
   refine Eq.trans w (congrArg some ?_)
   rw [Bool.eq_iff_iff,hc]
   constructor
   ·intro h
    obtain ⟨h1,h2,h3⟩ := ends_I hns (fX_rd hN) (fA_rd hN).1 (fA_rd hN).2 hok c.1 h
    exact s3 h1 c.1 h2 h3
   ·intro h
    obtain ⟨h1,_,M,h2,h3⟩ := s2 h
    exact (ends_S hns (fX_rd hN) (fA_rd hN).1 (fA_rd hN).2 h1 h2 h3).2
  ·rw [if_neg c]
   refine congrArg some ?_
   cases b with
   | false => rfl
   | true =>
    obtain ⟨h1,h4,M,h2,h3⟩ := s2 rfl
    have hN := names_S h1
    exact absurd ⟨h4,hall.2 (ends_S hns (fX_rd hN) (fA_rd hN).1 (fA_rd hN).2 h1 h2 h3).1⟩ c
 ·obtain ⟨k,rfl⟩ : ∃ m,k = m + 1 := ⟨k - 1,by omega⟩
  refine ⟨false,?_,?_⟩
  ·unfold impl_FsOk.f
   rw [if_neg (by omega),impl_FsOk.j0]; rfl
  ·unfold spec_FsOk.f
   rw [if_neg (by omega)]
/-! ### a file system: its size, its copy, and that a copy is equal to itself -/
def cvE (x : S126) : S47 := ⟨x.f0,x.f1⟩
def cvN (x : S100) : S34 := ⟨x.f0,x.f1,x.f2,x.f3,x.f4,x.f5,x.f6,x.f7,x.f8.map cvE⟩
theorem rd126_get {l : List S126} {i : Nat} (h : i < l.length) : rd_T126 l (i : Int) = l[i] := by simp [rd_T126,h]
theorem rd100_get {l : List S100} {i : Nat} (h : i < l.length) : rd_T100 l (i : Int) = l[i] := by simp [rd_T100,h]
theorem toEntryS_ok (l : List S126) (hl : l.length ≤ 8796093022208) {k : Nat} (hk : l.length < k) : laws_toEntryS.f k l = some (l.map cvE) := by
 unfold laws_toEntryS.f
 rw [if_pos (by omega),if_pos (by omega)]
 refine to_gen (l0 := fun k acc i => laws_toEntryS.l0 k l acc i) (l.map cvE) 0 ?_ ?_ k _ (by simp) (by simp; omega)
 ·intro k acc i hi _ ha
  have hi' : i < l.length := by simpa using hi
  have ha' : acc.length = l.length := by simpa using ha
  show laws_toEntryS.l0 (k + 1) l acc (i : Int) = _
  rw [laws_toEntryS.l0,if_pos (by omega),if_pos (by omega)]
  unfold laws_toEntry.f
  rw [Option.bind_some,if_pos (by omega),wsucc hi' (by omega),Int.toNat_natCast,rd126_get hi',List.getElem_map]
  rfl
 ·intro k acc
  show laws_toEntryS.l0 (k + 1) l acc ((l.map cvE).length : Int) = _
  rw [laws_toEntryS.l0,if_neg (by simp)]
theorem toInodeS_ok (l : List S100) (hl : l.length ≤ 1048576) (hb : ∀ z ∈ l,z.f8.length ≤ 1048576) {k : Nat} (hk : 3000000 ≤ k) : laws_toInodeS.f k l = some (l.map cvN) := by
 unfold laws_toInodeS.f
 rw [if_pos (by omega),if_pos (by omega)]
 refine to_gen (l0 := fun k acc i => laws_toInodeS.l0 k l acc i) (l.map cvN) 1048577 ?_ ?_ k _ (by simp) (by simp; omega)
 ·intro k acc i hi hK ha
  have hi' : i < l.length := by simpa using hi
  have ha' : acc.length = l.length := by simpa using ha
  have hz := hb l[i] (List.getElem_mem hi')
  show laws_toInodeS.l0 (k + 1) l acc (i : Int) = _
  rw [laws_toInodeS.l0,if_pos (by omega),if_pos (by omega),rd100_get hi']
  unfold laws_toInode.f
  rw [toEntryS_ok _ (by omega) (by omega)]
  simp only [Option.bind_some]
  rw [if_pos (by omega),wsucc hi' (by omega),Int.toNat_natCast,List.getElem_map]
  rfl
 ·intro k acc
  show laws_toInodeS.l0 (k + 1) l acc ((l.map cvN).length : Int) = _
  rw [laws_toInodeS.l0,if_neg (by simp)]
theorem eqEntryS_ok (l : List S47) (hl : l.length ≤ 8796093022208) {k : Nat} (hk : l.length < k) : laws_eqEntryS.f k l l = some true := by
 unfold laws_eqEntryS.f
 rw [if_pos rfl]
 refine eq_gen (l0 := fun k i => laws_eqEntryS.l0 k l l i) l.length 0 ?_ ?_ k (by omega)
 ·intro k i hi _
  show laws_eqEntryS.l0 (k + 1) l l (i : Int) = _
  rw [laws_eqEntryS.l0,if_pos (by omega),if_pos (by omega),if_pos (by omega)]
  unfold laws_eqEntry.f
  rw [if_pos rfl,if_pos rfl,Option.bind_some,if_pos rfl,wsucc hi (by omega)]
 ·intro k
  show laws_eqEntryS.l0 (k + 1) l l (l.length : Int) = _
  rw [laws_eqEntryS.l0,if_neg (by omega)]
theorem eqInodeS_ok (l : List S34) (hl : l.length ≤ 1048576) (hb : ∀ i,i < l.length → (nd l i).f8.length ≤ 1048576) {k : Nat} (hk : 3000000 ≤ k) : laws_eqInodeS.f k l l = some true := by
 unfold laws_eqInodeS.f
 rw [if_pos rfl]
 refine eq_gen (l0 := fun k i => laws_eqInodeS.l0 k l l i) l.length 1048577 ?_ ?_ k (by omega)
 ·intro k i hi hK
  have hz : (rd_T34 l (i : Int)).f8.length ≤ 1048576 := hb i hi
  show laws_eqInodeS.l0 (k + 1) l l (i : Int) = _
  rw [laws_eqInodeS.l0,if_pos (by omega),if_pos (by omega),if_pos (by omega)]
  unfold laws_eqInode.f
  rw [if_pos rfl,if_pos rfl,if_pos rfl,if_pos rfl,if_pos rfl,if_pos rfl,if_neg (by simp),if_pos rfl,eqEntryS_ok _ (by omega) (by omega)]
  simp only [Option.bind_some,if_true]
  rw [wsucc hi (by omega)]
 ·intro k
  show laws_eqInodeS.l0 (k + 1) l l (l.length : Int) = _
  rw [laws_eqInodeS.l0,if_neg (by omega)]
theorem szEntryS_loop (l : List S126) (hn : l.length ≤ 4611686018427387904) (hb : ∀ z ∈ l,z.f0.size ≤ 140737488351232) (d : Nat) : ∀ (k i : Nat) (a : Int),i + d = l.length → d < k → 0 ≤ a → a ≤ 1048576 → ∃ t,laws_szEntryS.l0 k l a (i : Int) = some t ∧ t ≤ 1048576 ∧ (0 ≤ t → ∀ z ∈ l.drop i,z.f0.size ≤ 1048576) := by
 induction d with
 | zero =>
  intro k i a hi hk h0 h1
  obtain ⟨k,rfl⟩ : ∃ m,k = m + 1 := ⟨k - 1,by omega⟩
  rw [laws_szEntryS.l0,if_neg (by omega),List.drop_eq_nil_of_le (by omega)]
  exact ⟨a,rfl,h1,fun _ z hz => (by cases hz)⟩
 | succ d ih =>
  intro k i a hi hk h0 h1
  obtain ⟨k,rfl⟩ : ∃ m,k = m + 1 := ⟨k - 1,by omega⟩
  have hi' : i < l.length := by omega
  have hz := hb l[i] (List.getElem_mem hi')
  have w : wrap64 ((i : Int) + 1) = ((i + 1 : Nat) : Int) := wsucc hi' (by omega)
  rw [laws_szEntryS.l0,if_pos (by clear w; omega),if_pos (by clear w; omega),w,rd126_get hi',List.drop_eq_getElem_cons hi']
  clear w
  unfold laws_szEntry.f
  rw [w64 (n := a - (l[i].f0.size : Int)) (by omega) (by omega)]
  by_cases c : a - (l[i].f0.size : Int) < 0
  ·rw [if_pos c,Option.bind_some,if_pos (by omega)]
   exact ⟨_,rfl,by omega,fun h => by omega⟩
  ·rw [if_neg c,Option.bind_some,if_neg c]
   obtain ⟨t,g1,g2,g3⟩ := ih k (i + 1) (a - (l[i].f0.size : Int)) (by omega) (by omega) (by omega) (by omega)
   refine ⟨t,g1,g2,fun h z hz => ?_⟩
   rcases List.mem_cons.1 hz with rfl | hz
   ·omega
   ·exact g3 h z hz
theorem szEntryS_le (l : List S126) (hl : l.length ≤ 140737488351232) (hb : ∀ z ∈ l,z.f0.size ≤ 140737488351232) (a : Int) (h0 : 0 ≤ a) (h1 : a ≤ 1048576) {k : Nat} (hk : 1048577 ≤ k) : ∃ t,laws_szEntryS.f k l a = some t ∧ t ≤ 1048576 ∧ (0 ≤ t → l.length ≤ 1048576 ∧ ∀ z ∈ l,z.f0.size ≤ 1048576) := by
 unfold laws_szEntryS.f
 rw [w64 (n := a - (l.length : Int)) (by omega) (by omega)]
 by_cases c : a - (l.length : Int) < 0
 ·rw [if_pos c]
  exact ⟨_,rfl,by omega,fun h => by omega⟩
 ·rw [if_neg c]
  obtain ⟨t,g1,g2,g3⟩ := szEntryS_loop l (by omega) hb l.length k 0 (a - (l.length : Int)) (by omega) (by omega) (by omega) (by omega)
  exact ⟨t,g1,g2,fun h => ⟨by omega,fun z hz => g3 h z (by rw [List.drop_zero]; exact hz)⟩⟩
theorem szInode_le (z : S100) (hB : BdFnExactFsRead.B100 z) (a : Int) (h0 : 0 ≤ a) (h1 : a ≤ 1048576) {k : Nat} (hk : 1048577 ≤ k) : ∃ t,laws_szInode.f k z.f0 z.f1 z.f2 z.f3 z.f4 z.f5 z.f6 z.f7 z.f8 a = some t ∧ t ≤ 1048576 ∧ (0 ≤ t → z.f8.length ≤ 1048576 ∧ ∀ e ∈ z.f8,e.f0.size ≤ 1048576) := by
 obtain ⟨_,_,_,_,_,_,_,b7,b8,b9⟩ := hB
 unfold laws_szInode.f
 rw [w64 (n := a - (z.f7.size : Int)) (by omega) (by omega)]
 by_cases c : a - (z.f7.size : Int) < 0
 ·rw [if_pos c]
  exact ⟨_,rfl,by omega,fun h => by omega⟩
 ·rw [if_neg c]
  obtain ⟨t,g1,g2,g3⟩ := szEntryS_le z.f8 (by omega) (fun e he => (b9 e he).1) (a - (z.f7.size : Int)) (by omega) (by omega) hk
  rw [g1,Option.bind_some]
  by_cases c2 : t < 0
  ·rw [if_pos c2]
   exact ⟨_,rfl,by omega,fun h => by omega⟩
  ·rw [if_neg c2]
   exact ⟨t,rfl,g2,g3⟩
theorem szInodeS_loop (l : List S100) (hn : l.length ≤ 4611686018427387904) (hb : ∀ z ∈ l,BdFnExactFsRead.B100 z) (d : Nat) : ∀ (k i : Nat) (a : Int),i + d = l.length → d + 1048577 < k → 0 ≤ a → a ≤ 1048576 → ∃ t,laws_szInodeS.l0 k l a (i : Int) = some t ∧ t ≤ 1048576 ∧ (0 ≤ t → ∀ z ∈ l.drop i,z.f8.length ≤ 1048576 ∧ ∀ e ∈ z.f8,e.f0.size ≤ 1048576) := by
 induction d with
 | zero =>
  intro k i a hi hk h0 h1
  obtain ⟨k,rfl⟩ : ∃ m,k = m + 1 := ⟨k - 1,by omega⟩
  rw [laws_szInodeS.l0,if_neg (by omega),List.drop_eq_nil_of_le (by omega)]
  exact ⟨a,rfl,h1,fun _ z hz => (by cases hz)⟩
 | succ d ih =>
  intro k i a hi hk h0 h1
  obtain ⟨k,rfl⟩ : ∃ m,k = m + 1 := ⟨k - 1,by omega⟩
  have hi' : i < l.length := by omega
  have w : wrap64 ((i : Int) + 1) = ((i + 1 : Nat) : Int) := wsucc hi' (by omega)
  obtain ⟨t,g1,g2,g3⟩ := szInode_le l[i] (hb l[i] (List.getElem_mem hi')) a h0 h1 (k := k) (by clear w; omega)
  rw [laws_szInodeS.l0,if_pos (by clear w; omega),if_pos (by clear w; omega),w,rd100_get hi',List.drop_eq_getElem_cons hi',g1,Option.bind_some]
  clear w
  by_cases c : t < 0
  ·rw [if_pos c]
   exact ⟨_,rfl,by omega,fun h => by omega⟩
  ·rw [if_neg c]
   obtain ⟨t',f1,f2,f3⟩ := ih k (i + 1) t (by omega) (by omega) (by omega) (by omega)
   refine ⟨t',f1,f2,fun h z hz => ?_⟩
   rcases List.mem_cons.1 hz with rfl | hz
   ·exact g3 (by omega)
   ·exact f3 h z hz
theorem szFs_le (l : List S100) (hl : l.length * 96 ≤ 140737488351232) (hb : ∀ z ∈ l,BdFnExactFsRead.B100 z) {k : Nat} (hk : 3000000 ≤ k) : ∃ t,laws_szFs.f k l 1048576 = some t ∧ (0 ≤ t → l.length ≤ 1048576 ∧ ∀ z ∈ l,z.f8.length ≤ 1048576 ∧ ∀ e ∈ z.f8,e.f0.size ≤ 1048576) := by
 unfold laws_szFs.f laws_szInodeS.f
 rw [w64 (n := 1048576 - (l.length : Int)) (by omega) (by omega)]
 by_cases c : (1048576 : Int) - (l.length : Int) < 0
 ·rw [if_pos c,Option.bind_some,if_pos (by omega)]
  exact ⟨_,rfl,fun h => by omega⟩
 ·rw [if_neg c]
  obtain ⟨t,g1,g2,g3⟩ := szInodeS_loop l (by omega) hb l.length k 0 (1048576 - (l.length : Int)) (by omega) (by omega) (by omega) (by omega)
  have g1' : laws_szInodeS.l0 k l (1048576 - (l.length : Int)) 0 = some t := g1
  rw [g1',Option.bind_some]
  by_cases c2 : t < 0
  ·rw [if_pos c2]
   exact ⟨_,rfl,fun h => by omega⟩
  ·rw [if_neg c2]
   exact ⟨t,rfl,fun h => ⟨by omega,fun z hz => g3 h z (by rw [List.drop_zero]; exact hz)⟩⟩
theorem nd_map (l : List S100) (i : Nat) : (∃ h : i < l.length,nd (l.map cvN) i = cvN l[i]) ∨ (nd (l.map cvN) i).f8 = [] := by
 by_cases c : i < l.length
 ·refine Or.inl ⟨c,?_⟩
  unfold nd rd_T34
  rw [List.getD_eq_getElem?_getD,show ((i : Int)).toNat = i by omega,List.getElem?_map,List.getElem?_eq_getElem c]; rfl
 ·refine Or.inr ?_
  unfold nd rd_T34
  rw [List.getD_eq_getElem?_getD,show ((i : Int)).toNat = i by omega,List.getElem?_eq_none (by rw [List.length_map]; omega)]; rfl
theorem nd_len {l : List S100} (hb : ∀ z ∈ l,z.f8.length ≤ 1048576) (i : Nat) : (nd (l.map cvN) i).f8.length ≤ 1048576 := by
 rcases nd_map l i with ⟨h,e⟩ | e
 ·rw [e]; unfold cvN; rw [List.length_map]; exact hb _ (List.getElem_mem h)
 ·rw [e]; exact Nat.zero_le _
theorem nd_names {l : List S100} (hb : ∀ z ∈ l,∀ e ∈ z.f8,e.f0.size ≤ 1048576) (i : Nat) : ∀ e ∈ (nd (l.map cvN) i).f8,e.f0.size ≤ 1048576 := by
 intro e he
 rcases nd_map l i with ⟨h,g⟩ | g
 ·rw [g] at he
  obtain ⟨x,h1,rfl⟩ := List.mem_map.1 (show e ∈ l[i].f8.map cvE from he)
  exact hb _ (List.getElem_mem h) x h1
 ·rw [g] at he; cases he
/-! ### FsRead, of the program and of the reference -/
theorem has_impl (ns : List S34) (hns : ns.length = 10) (a1 : Int) : impl_Fs_has.f ns a1 = some (decide (0 ≤ a1 ∧ a1 ≤ 9) && ((rd_T34 ns a1).f0 != 0)) := by
 unfold impl_Fs_has.f
 have e10 : (ns.length : Int) = 10 := by omega
 have w : wrap64 ((10 : Int) - 1) = 9 := w64 (by omega) (by omega)
 rw [e10,w,fin_eq,Option.bind_some]
 by_cases c : 0 ≤ a1 ∧ a1 ≤ 9
 ·rw [if_pos (decide_eq_true c),if_pos c.1,if_pos (by omega),decide_eq_true c,Bool.true_and]
 ·rw [if_neg (by simpa using c),decide_eq_false c,Bool.false_and]
theorem has_spec (ns : List S34) (hns : ns.length = 10) (a1 : Int) : spec_l7Id.f ns a1 = some (decide (0 ≤ a1 ∧ a1 ≤ 9) && ((rd_T34 ns a1).f0 != 0)) := has_impl ns hns a1
theorem fs_forty (ns : List S34) (hl : ∀ i,i < 10 → (nd ns i).f8.length ≤ 1048576) (hm : ∀ i,i < 10 → ∀ e ∈ (nd ns i).f8,e.f0.size ≤ 1048576) {k : Nat} (hk : 80000000 ≤ k) (h : spec_FsOk.f k ns = some true) : ns.length = 10 ∧ ∀ i,i < 10 → (nd ns i).f0 = 1 → (nd ns i).f7.size ≤ 40 := by
 by_cases hns : ns.length = 10
 ·obtain ⟨b,s1,s2,_⟩ := spec_sum ns hns hl hm hk
  rw [h] at s1
  obtain rfl := Option.some.inj s1
  refine ⟨hns,fun i hi h1 => ?_⟩
  rcases nodeS_iff.1 ((s2 rfl).1 i hi) with ⟨a,_⟩ | ⟨_,_,_,b,_⟩
  ·omega
  ·unfold nodeB at b
   rw [if_pos h1] at b
   simp only [Bool.and_eq_true,decide_eq_true_eq] at b
   exact b.1
 ·unfold spec_FsOk.f at h
  rw [if_neg (by omega)] at h
  cases h
theorem read_all (ns : List S34) (hl : ∀ i,i < 10 → (nd ns i).f8.length ≤ 1048576) (hm : ∀ i,i < 10 → ∀ e ∈ (nd ns i).f8,e.f0.size ≤ 1048576) (a1 a2 a3 : Int) (h2 : a2 ≤ 9223372036854775807) (h3 : a3 ≤ 9223372036854775807) {k : Nat} (hk : 80000000 ≤ k) :
  ∃ (s t : ByteArray) (e : Int),impl_FsRead.f k ns a1 a2 a3 = some (s,e) ∧ spec_FsRead.f k ns a1 a2 a3 = some (t,e) ∧ s.toList = t.toList := by
 obtain ⟨b,g1,g2⟩ := fs_all ns hl hm hk
 unfold impl_FsRead.f spec_FsRead.f
 rw [g1,g2,Option.bind_some,Option.bind_some]
 cases b with
 | false => exact ⟨_, _, _, rfl, rfl, rfl⟩
 | true =>
  obtain ⟨hns,hf⟩ := fs_forty ns hl hm hk g2
  rw [if_pos rfl,if_pos rfl,has_impl ns hns,has_spec ns hns,Option.bind_some,Option.bind_some]
  cases hb : (decide (0 ≤ a1 ∧ a1 ≤ 9) && ((rd_T34 ns a1).f0 != 0)) with
  | false => exact ⟨_, _, _, rfl, rfl, rfl⟩
  | true =>
   obtain ⟨c1,_⟩ := Bool.and_eq_true_iff.1 hb
   have c1 := of_decide_eq_true c1
   have p0 : 0 ≤ a1 := c1.1
   have p1 : a1 < (ns.length : Int) := by omega
   rw [if_pos rfl,if_pos rfl]
   by_cases ca : a2 < 0
   ·rw [if_pos ca,if_pos ca]; exact ⟨_,_,_,rfl,rfl,rfl⟩
   ·rw [if_neg ca,if_neg ca]
    by_cases cb : a3 < 0
    ·rw [if_pos cb,if_pos cb]; exact ⟨_,_,_,rfl,rfl,rfl⟩
    ·rw [if_neg cb,if_neg cb,if_pos p0,if_pos p1,if_pos p0,if_pos p1]
     by_cases ck : (rd_T34 ns a1).f0 = 1
     ·rw [if_pos ck,if_pos ck]
      unfold spec_l7Read.f
      rw [if_pos p0,if_pos p1]
      have h40 : (rd_T34 ns a1).f7.size ≤ 40 := by
       rw [rd_nd p0] at ck ⊢
       exact hf a1.toNat (by omega) ck
      generalize (rd_T34 ns a1).f7 = z at h40 ⊢
      by_cases cn : a2 ≥ (z.size : Int)
      ·rw [if_pos cn,Option.bind_some]
       have m1 : mn a2 (z.size : Int) = (z.size : Int) := by unfold mn; split <;> omega
       have m2 : mn a3 0 = 0 := by unfold mn; split <;> omega
       rw [m1,w64 (n := (z.size : Int) - (z.size : Int)) (by omega) (by omega),Int.sub_self,m2,w64 (n := (z.size : Int) + 0) (by omega) (by omega),Int.add_zero,if_pos (by omega),if_pos (by omega),if_pos (by omega)]
       refine ⟨_,_,_,rfl,rfl,?_⟩
       rw [toList_nil.2 (by rw [ByteArray.size_extract]; omega),toList_nil.2 rfl]
      ·rw [if_neg cn]
       have m1 : mn a2 (z.size : Int) = a2 := by unfold mn; split <;> omega
       have m3 : 0 ≤ mn a3 ((z.size : Int) - a2) ∧ mn a3 ((z.size : Int) - a2) ≤ (z.size : Int) - a2 := by unfold mn; split <;> omega
       have m4 : 0 ≤ mn a3 40 ∧ mn a3 40 ≤ 40 := by unfold mn; split <;> omega
       have m5 : mn (z.size : Int) (a2 + mn a3 40) = a2 + mn a3 ((z.size : Int) - a2) := by
        unfold mn
        repeat' split
        all_goals omega
       rw [m1,w64 (n := (z.size : Int) - a2) (by omega) (by omega),w64 (n := a2 + mn a3 ((z.size : Int) - a2)) (by omega) (by omega),w64 (n := a2 + mn a3 40) (by omega) (by omega),m5,if_pos (by omega),if_pos (by omega),if_pos (by omega),if_pos (by omega),if_pos (by omega),if_pos (by omega)]
       exact ⟨_,_,_,rfl,rfl,rfl⟩
     ·rw [if_neg ck,if_neg ck]; exact ⟨_,_,_,rfl,rfl,rfl⟩

theorem FnExactFsRead : BdFnExactFsRead.Pure := by
 intro l a1 a2 a3 ⟨hl,hb⟩ _ w2 w3
 obtain ⟨K,hK⟩ : ∃ K : Nat,80000000 ≤ K := ⟨_,Nat.le_refl _⟩
 refine ⟨K,?_⟩
 unfold laws_FnExactFsRead.f
 obtain ⟨t,h1,h2⟩ := szFs_le l hl hb (k := K) (by omega)
 rw [h1,Option.bind_some]
 by_cases c : t < 0
 ·rw [if_pos c]
 ·rw [if_neg c]
  obtain ⟨g1,g2⟩ := h2 (by omega)
  have hto : laws_toFs.f K l = some (l.map cvN) := by
   unfold laws_toFs.f
   rw [toInodeS_ok l g1 (fun z hz => (g2 z hz).1) (by omega)]; rfl
  have heq : laws_eqFs.f K (l.map cvN) (l.map cvN) = some true := by
   unfold laws_eqFs.f
   rw [eqInodeS_ok (l.map cvN) (by rw [List.length_map]; exact g1) (fun i _ => nd_len (fun z hz => (g2 z hz).1) i) (by omega)]; rfl
  obtain ⟨s,s',e,h3,h4,h5⟩ := read_all (l.map cvN) (fun i _ => nd_len (fun z hz => (g2 z hz).1) i) (fun i _ => nd_names (fun z hz => (g2 z hz).2) i) a1 a2 a3 (Go.bounds_i64 w2).2 (Go.bounds_i64 w3).2 hK
  simp only [hto,heq,h3,h4,Option.bind_some]
  rw [if_pos h5]
  simp

end Go.Proofs.Ytpljcphiaajjaaa.Pure
