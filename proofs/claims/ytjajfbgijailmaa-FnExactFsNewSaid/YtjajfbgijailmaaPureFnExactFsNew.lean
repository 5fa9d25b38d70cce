/- The program's FsNew and the reference's answer alike at every two numbers, and two calls share no store. -/
import Derived.Test.YtjajfbgijailmaaBdFnExactFsNew
import Derived.WideShapes
import Derived.IntWalk
import Derived.OpenShut
namespace Go.Proofs.Ytjajfbgijailmaa.Pure
open Go.RowKit Go.Proofs.Ytjajfbgijailmaa.XFnExactFsNew Go.Proofs.YtjajfbgijailmaaW.PrintWords Go.Proofs.YtjajfbgijailmaaW.PrintLast
/-! ### small facts on numbers, bytes and rounds -/
theorem w64 {n : Int} (h1 : -9223372036854775808 ≤ n) (h2 : n ≤ 9223372036854775807) : wrap64 n = n := by unfold wrap64; omega
theorem w64_range (n : Int) : -9223372036854775808 ≤ wrap64 n ∧ wrap64 n ≤ 9223372036854775807 := by unfold wrap64; omega
theorem xor_ok {x y : Int} (hx : 0 ≤ x) (hx2 : x < 4611686018427387904) (hy : 0 ≤ y) (hy2 : y < 4611686018427387904) : 0 ≤ Go.bits .xor .i64 x y ∧ Go.bits .xor .i64 x y < 4611686018427387904 := by
  have h1 : (BitVec.ofInt 64 x ^^^ BitVec.ofInt 64 y).toNat < 2 ^ 62 := by
    rw [BitVec.toNat_xor]
    apply Nat.xor_lt_two_pow
    · rw [BitVec.toNat_ofInt]; omega
    · rw [BitVec.toNat_ofInt]; omega
  have h2 : Go.bits .xor .i64 x y = ((BitVec.ofInt 64 x ^^^ BitVec.ofInt 64 y).toNat : Int) := by
    show IntKind.wrap .i64 ((BitVec.ofInt 64 x ^^^ BitVec.ofInt 64 y).toNat : Int) = _
    generalize (BitVec.ofInt 64 x ^^^ BitVec.ofInt 64 y).toNat = m at h1
    exact IntWalk.i64_in _ (by omega)
  rw [h2]; omega
theorem tmod_ok {x n : Int} (hx : 0 ≤ x) (hn : 1 ≤ n) : 0 ≤ Int.tmod x n ∧ Int.tmod x n < n := by
  rw [Int.tmod_eq_emod_of_nonneg hx]
  exact ⟨Int.emod_nonneg _ (by omega), Int.emod_lt_of_pos _ (by omega)⟩
theorem tdiv_ok {x n : Int} (hx : 0 ≤ x) (hn : 1 ≤ n) : 0 ≤ Int.tdiv x n ∧ Int.tdiv x n ≤ x := by
  rw [Int.tdiv_eq_ediv_of_nonneg hx]
  exact ⟨Int.ediv_nonneg hx (by omega), Int.ediv_le_self _ hx⟩
theorem rd_mem {xs : List Int} {i : Int} (h0 : 0 ≤ i) (h1 : i < (xs.length : Int)) : rd xs i ∈ xs := by
  have hl : i.toNat < xs.length := by omega
  unfold rd
  rw [List.getD_eq_getElem?_getD, List.getElem?_eq_getElem hl]
  exact List.getElem_mem hl
def Bytes (s : List Int) : Prop := ∀ x ∈ s, 0 ≤ x ∧ x ≤ 255
theorem bytes_of_wf {s : List Int} (h : ∀ x ∈ s, (Lit.int .u8 x).wf = true) : Bytes s := fun x hx => Go.bounds_u8 (h x hx)
theorem bytes_rd {s : List Int} (h : Bytes s) {i : Int} (h0 : 0 ≤ i) (h1 : i < (s.length : Int)) : 0 ≤ rd s i ∧ rd s i ≤ 255 := h _ (rd_mem h0 h1)
theorem toList_inj {a b : ByteArray} : a.toList = b.toList ↔ a = b := by
  rw [ByteArray.toList_eq, ByteArray.toList_eq]
  constructor
  · intro h; exact Go.WideShapes.bytes_inj h
  · rintro rfl; rfl
theorem toList_nil {a : ByteArray} : a.toList = ([] : List UInt8) ↔ a.size = 0 := by
  rw [ByteArray.toList_eq, List.eq_nil_iff_length_eq_zero, data_length]
/-! ### rows that are copied, and rows that are held against themselves -/
theorem to_gen {β : Type} {l0 : Nat → List β → Int → Option (List β)} (xs : List β) (K : Nat)
    (hstep : ∀ (k : Nat) (acc : List β) (i : Nat) (hi : i < xs.length), K ≤ k → acc.length = xs.length → l0 (k + 1) acc (i : Int) = l0 k (acc.set i (xs[i]'hi)) ((i + 1 : Nat) : Int))
    (hend : ∀ (k : Nat) (acc : List β), l0 (k + 1) acc (xs.length : Int) = some acc) :
    ∀ (k : Nat) (acc : List β), acc.length = xs.length → xs.length + K < k → l0 k acc 0 = some xs := by
  have key : ∀ (d : Nat) (k : Nat) (acc : List β) (i : Nat), i + d = xs.length → d + K < k → acc.length = xs.length → (∀ j, j < i → acc[j]? = xs[j]?) → l0 k acc (i : Int) = some xs := by
    intro d
    induction d with
    | zero =>
      intro k acc i hd hk hl hj
      obtain ⟨k, rfl⟩ : ∃ m, k = m + 1 := ⟨k - 1, by omega⟩
      obtain rfl : i = xs.length := by omega
      rw [hend]
      congr 1
      apply List.ext_getElem?
      intro j
      by_cases h : j < xs.length
      · exact hj j h
      · rw [List.getElem?_eq_none (by omega), List.getElem?_eq_none (by omega)]
    | succ d ih =>
      intro k acc i hd hk hl hj
      obtain ⟨k, rfl⟩ : ∃ m, k = m + 1 := ⟨k - 1, by omega⟩
      have hi : i < xs.length := by omega
      rw [hstep k acc i hi (by omega) hl]
      refine ih k _ (i + 1) (by omega) (by omega) (by rw [List.length_set]; exact hl) (fun j hjl => ?_)
      by_cases e : j = i
      · subst e
        rw [List.getElem?_set_self (by omega), List.getElem?_eq_getElem hi]
      · rw [List.getElem?_set_ne (by omega)]
        exact hj j (by omega)
  intro k acc hl hk
  exact key xs.length k acc 0 (by omega) (by omega) hl (fun j hj => absurd hj (Nat.not_lt_zero j))
theorem eq_gen {l0 : Nat → Int → Option Bool} (n : Nat) (K : Nat)
    (hstep : ∀ (k : Nat) (i : Nat), i < n → K ≤ k → l0 (k + 1) (i : Int) = l0 k ((i + 1 : Nat) : Int)) (hend : ∀ (k : Nat), l0 (k + 1) (n : Int) = some true) :
    ∀ (k : Nat), n + K < k → l0 k 0 = some true := by
  have key : ∀ (d : Nat) (k : Nat) (i : Nat), i + d = n → d + K < k → l0 k (i : Int) = some true := by
    intro d
    induction d with
    | zero =>
      intro k i hd hk
      obtain ⟨k, rfl⟩ : ∃ m, k = m + 1 := ⟨k - 1, by omega⟩
      obtain rfl : i = n := by omega
      exact hend k
    | succ d ih =>
      intro k i hd hk
      obtain ⟨k, rfl⟩ : ∃ m, k = m + 1 := ⟨k - 1, by omega⟩
      rw [hstep k i (by omega) (by omega)]
      exact ih k (i + 1) (by omega) (by omega)
  intro k hk
  exact key n k 0 (by omega) (by omega)
theorem rd_get {l : List Int} {i : Nat} (h : i < l.length) : rd l (i : Int) = l[i] := by simp [rd, h]
theorem rdOf_get {α : Type} {z : α} {l : List α} {i : Nat} (h : i < l.length) : rdOf z l (i : Int) = l[i] := by simp [rdOf, h]
theorem wsucc {i n : Nat} (h : i < n) (hn : n ≤ 4611686018427387904) : wrap64 ((i : Int) + 1) = ((i + 1 : Nat) : Int) := by rw [w64 (by omega) (by omega)]; omega

theorem fin_eq (a b c : Int) : impl_in.f a b c = some (decide (b ≤ a ∧ a ≤ c)) := by
  unfold impl_in.f
  by_cases h : a ≥ b <;> simp [h]
theorem fsin_eq (a b c : Int) : spec_l6In.f a b c = some (decide (b ≤ a ∧ a ≤ c)) := by
  unfold spec_l6In.f
  by_cases h : a ≥ b <;> simp [h]
def frs (o m : Int) : List S87 := [⟨2, m, o, o, 0, 0, false, (⟨#[]⟩ : ByteArray), []⟩, z87, z87, z87, z87, z87, z87, z87, z87, z87]
theorem new_impl (o m : Int) : impl_FsNew.f o m = some (if (0 ≤ o ∧ o ≤ 9) ∧ (0 ≤ m ∧ m ≤ 511) then (frs o m, true) else ([], false)) := by
  unfold impl_FsNew.f
  simp only [fin_eq, Option.bind_some]
  by_cases c1 : 0 ≤ o ∧ o ≤ 9
  · by_cases c2 : 0 ≤ m ∧ m ≤ 511
    · rw [if_pos (decide_eq_true c1), if_pos (decide_eq_true c2), if_pos (by decide), if_pos (by decide), if_pos ⟨c1, c2⟩]; rfl
    · rw [if_pos (decide_eq_true c1), if_neg (by simpa using c2), if_neg (fun h => c2 h.2)]
  · rw [if_neg (by simpa using c1), if_neg (fun h => c1 h.1)]
theorem new_spec (o m : Int) : spec_FsNew.f o m = some (if (0 ≤ o ∧ o ≤ 9) ∧ (0 ≤ m ∧ m ≤ 511) then (frs o m, true) else ([], false)) := by
  unfold spec_FsNew.f spec_l5User.f
  simp only [fsin_eq, Option.bind_some]
  by_cases c1 : 0 ≤ o ∧ o ≤ 9
  · by_cases c2 : 0 ≤ m ∧ m ≤ 511
    · rw [if_pos (decide_eq_true c1), if_pos (decide_eq_true c2), if_pos (by decide), if_pos (by decide), if_pos ⟨c1, c2⟩]; rfl
    · rw [if_pos (decide_eq_true c1), if_neg (by simpa using c2), if_neg (fun h => c2 h.2)]
  · rw [if_neg (by simpa using c1), if_neg (fun h => c1 h.1)]
theorem eqInode_ok (z : S87) (h : z.f8 = []) (k : Nat) : laws_eqInode.f (k + 1) z.f0 z.f1 z.f2 z.f3 z.f4 z.f5 z.f6 z.f7 z.f8 z.f0 z.f1 z.f2 z.f3 z.f4 z.f5 z.f6 z.f7 z.f8 = some true := by
  unfold laws_eqInode.f
  rw [if_pos rfl, if_pos rfl, if_pos rfl, if_pos rfl, if_pos rfl, if_pos rfl, if_neg (by simp), if_pos rfl, h]
  rfl
theorem eqFs_ok (l : List S87) (hl : l.length ≤ 10) (h : ∀ i : Nat, (rd_T87 l (i : Int)).f8 = []) {k : Nat} (hk : 20 ≤ k) : laws_eqFs.f k l l = some true := by
  unfold laws_eqFs.f laws_eqInodeS.f
  rw [if_pos rfl]
  have : laws_eqInodeS.l0 k l l 0 = some true := by
    refine eq_gen (l0 := fun k i => laws_eqInodeS.l0 k l l i) l.length 1 ?_ ?_ k (by omega)
    · intro k i hi hK
      obtain ⟨k, rfl⟩ : ∃ m, k = m + 1 := ⟨k - 1, by omega⟩
      show laws_eqInodeS.l0 (k + 1 + 1) l l (i : Int) = _
      rw [laws_eqInodeS.l0, if_pos (by omega), if_pos (by omega), if_pos (by omega), eqInode_ok (rd_T87 l (i : Int)) (h i), Option.bind_some, if_pos rfl, wsucc hi (by omega)]
    · intro k
      show laws_eqInodeS.l0 (k + 1) l l (l.length : Int) = _
      rw [laws_eqInodeS.l0, if_neg (by omega)]
  rw [this]; rfl
theorem frs_rd (o m : Int) (i : Nat) : (rd_T87 (frs o m) (i : Int)).f8 = [] := by
  unfold rd_T87 frs
  rw [show ((i : Int)).toNat = i by omega]
  rcases i with _ | _ | _ | _ | _ | _ | _ | _ | _ | _ | i <;> first | rfl | (simp; rfl)
def mk (x : Int) : S87 := ⟨x, x + 1, x + 2, x + 3, x + 4, x + 5, Int.tmod (x + 6) 3 == 0, (laws_markText.f 20 (x + 7)).getD (⟨#[]⟩ : ByteArray), []⟩
def marked : List S87 := [mk 1, mk 9, mk 17, mk 25, mk 33, mk 41, mk 49, mk 57, mk 65, mk 73]
theorem mark_ok (o m : Int) : laws_markFs.f 40 (frs o m) 1 = some (81, marked) := by kernel_rfl
theorem mark_ok' (o m : Int) : laws_markFs.f 41 (frs o m) 1 = some (81, marked) := laws_markFs.mono _ _ 40 _ (mark_ok o m)
theorem held_ok : laws_heldFs.f 40 marked 1 = some 81 := by decide +kernel
theorem held_ok' : laws_heldFs.f 41 marked 1 = some 81 := laws_heldFs.mono _ _ 40 _ held_ok
theorem FnExactFsNew : BdFnExactFsNew.Pure := by
  intro o m _ _
  refine ⟨42, ?_⟩
  unfold laws_FnExactFsNew.f
  rw [new_spec, new_impl, Option.bind_some, Option.bind_some]
  by_cases c : (0 ≤ o ∧ o ≤ 9) ∧ (0 ≤ m ∧ m ≤ 511)
  · rw [if_pos c]
    simp only
    rw [eqFs_ok (frs o m) (Nat.le_refl 10) (frs_rd o m) (by omega), Option.bind_some, if_pos rfl]
    show laws_FnExactFsNew.j0 42 o m true false (frs o m) (frs o m) = some true
    rw [laws_FnExactFsNew.j0, if_neg (by decide), mark_ok', Option.bind_some, held_ok', Option.bind_some, if_neg (by decide), if_pos rfl, new_impl, if_pos c, Option.bind_some, eqFs_ok (frs o m) (Nat.le_refl 10) (frs_rd o m) (by omega), Option.bind_some, if_pos rfl]
    show laws_FnExactFsNew.j1 41 81 false marked = some true
    rw [laws_FnExactFsNew.j1, if_neg (by decide), held_ok, Option.bind_some, if_neg (by decide), if_pos rfl]
  · rw [if_neg c]
    simp only
    rw [eqFs_ok [] (Nat.zero_le _) (fun _ => rfl) (by omega), Option.bind_some, if_pos rfl]
    show laws_FnExactFsNew.j0 42 o m false false [] [] = some true
    rw [laws_FnExactFsNew.j0, if_neg (by decide), show laws_markFs.f 41 [] 1 = some (1, []) from rfl, Option.bind_some, show laws_heldFs.f 41 [] 1 = some 1 from rfl, Option.bind_some, if_neg (by decide), if_pos rfl, new_impl, if_neg c, Option.bind_some, eqFs_ok [] (Nat.zero_le _) (fun _ => rfl) (by omega), Option.bind_some, if_pos rfl]
    rfl

end Go.Proofs.Ytjajfbgijailmaa.Pure
