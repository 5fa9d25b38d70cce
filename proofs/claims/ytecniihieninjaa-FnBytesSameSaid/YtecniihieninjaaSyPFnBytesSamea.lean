/- The plain law FnBytesSame, over what its functions compute: a part. No further condition. -/
import Derived.Test.YtecniihieninjaaSyFFnBytesSame
import Derived.Test.YtecniihieninjaaSyV
set_option linter.unusedVariables false
set_option linter.unusedSimpArgs false
namespace Go.Sx
open Go.RowKit
set_option linter.unusedVariables false
set_option linter.unusedSimpArgs false

/-! ### an answer, and what is known of it -/
def Okk {α : Type} (o : Option α) (Q : α → Prop) : Prop := ∃ r, o = some r ∧ Q r
theorem Okk.ret {α : Type} {r : α} {Q : α → Prop} (h : Q r) : Okk (some r) Q := ⟨r, rfl, h⟩
theorem Okk.cnd {α : Type} {b : Bool} {x y : Option α} {Q : α → Prop} (h1 : b = true → Okk x Q) (h2 : b = false → Okk y Q) : Okk (cond b x y) Q := by
  cases b
  · exact h2 rfl
  · exact h1 rfl
theorem Okk.chk {α : Type} {p : Prop} [Decidable p] {x : Option α} {Q : α → Prop} (h : p) (h1 : Okk x Q) : Okk (cond (decide p) x none) Q := by
  rw [decide_eq_true h]; exact h1
theorem Okk.bnd {α β : Type} {o : Option α} {g : α → Option β} {P : α → Prop} {Q : β → Prop} (h : Okk o P) (h2 : ∀ r, P r → Okk (g r) Q) : Okk (o.bind g) Q := by
  obtain ⟨r, e, hr⟩ := h
  rw [e]; exact h2 r hr
theorem Okk.mono {α : Type} {o : Option α} {P Q : α → Prop} (h : Okk o P) (h2 : ∀ r, P r → Q r) : Okk o Q := by
  obtain ⟨r, e, hr⟩ := h
  exact ⟨r, e, h2 r hr⟩
theorem Okk.eq {α : Type} {o : Option α} {r : α} (h : Okk o (fun x => x = r)) : o = some r := by
  obtain ⟨x, e, rfl⟩ := h; exact e
theorem Okk.of {α : Type} {o : Option α} {r : α} (h : o = some r) : Okk o (fun x => x = r) := ⟨r, h, rfl⟩
theorem w64_id {x : Int} (h1 : -9223372036854775808 ≤ x) (h2 : x ≤ 9223372036854775807) : w64 x = x := w64_in ⟨h1, h2⟩
theorem wsucc {i : Nat} (h : i < 9223372036854775807) : w64 ((i : Int) + 1) = ((i + 1 : Nat) : Int) := w64_up h

/-! ### the heap of handles -/
abbrev H := List (Cell TT)
/-- A handle above n, and its row. -/
def Hd (n : Nat) (cs : H) (h t : Nat) (xs : List (TT t)) : Prop := n < h ∧ cs[h - 1]? = some (.arr t xs)
def Hz (n : Nat) (cs : H) (h t : Nat) (xs : List (TT t)) : Prop := (h = 0 ∧ xs = []) ∨ Hd n cs h t xs
/-- What lies below n stays. -/
structure Fr_ (n : Nat) (cs cs' : H) : Prop where
  le : cs.length ≤ cs'.length
  at_ : ∀ j, j < n → cs'[j]? = cs[j]?
section
variable {n m h h' t t' : Nat} {cs cs' cs'' : H} {xs : List (TT t)} {ys : List (TT t')}
theorem Fr_.refl (n : Nat) (cs : H) : Fr_ n cs cs := ⟨Nat.le_refl _, fun _ _ => rfl⟩
theorem Fr_.trans (a : Fr_ n cs cs') (b : Fr_ n cs' cs'') : Fr_ n cs cs'' := ⟨Nat.le_trans a.le b.le, fun j hj => (b.at_ j hj).trans (a.at_ j hj)⟩
theorem Fr_.mono (a : Fr_ n cs cs') (hm : m ≤ n) : Fr_ m cs cs' := ⟨a.le, fun j hj => a.at_ j (by omega)⟩
theorem Hd.z (a : Hd n cs h t xs) : Hz n cs h t xs := .inr a
theorem Hd.pos (a : Hd n cs h t xs) : ∃ j, h = j + 1 ∧ cs[j]? = some (.arr t xs) := ⟨h - 1, by have := a.1; omega, a.2⟩
theorem Hd.lt (a : Hd n cs h t xs) : h ≤ cs.length := by
  have := (List.getElem?_eq_some_iff.1 a.2).1
  have := a.1
  omega
theorem Hd.okA (a : Hd n cs h t xs) : Sx.okA t cs h = true := by
  obtain ⟨j, rfl, e⟩ := a.pos
  simp only [Sx.okA, e, Nat.beq_refl]
theorem Hd.okR (a : Hd n cs h t xs) : Sx.okR t cs h = true := by
  obtain ⟨j, rfl, e⟩ := a.pos
  simp only [Sx.okR, e, Nat.beq_refl]
theorem Hd.rdc (a : Hd n cs h t xs) : Sx.rdc t cs h = xs := by
  obtain ⟨j, rfl, e⟩ := a.pos
  simp only [Sx.rdc, e, dif_pos]
theorem Hz.okA (a : Hz n cs h t xs) : Sx.okA t cs h = true := by
  rcases a with ⟨rfl, _⟩ | a
  · rfl
  · exact a.okA
theorem Hz.okR (a : Hz n cs h t xs) : Sx.okR t cs h = true := by
  rcases a with ⟨rfl, _⟩ | a
  · rfl
  · exact a.okR
theorem Hz.rdc (a : Hz n cs h t xs) : Sx.rdc t cs h = xs := by
  rcases a with ⟨rfl, rfl⟩ | a
  · rfl
  · exact a.rdc
theorem Hd.mono (a : Hd n cs h t xs) (hm : m ≤ n) : Hd m cs h t xs := ⟨Nat.lt_of_le_of_lt hm a.1, a.2⟩
theorem Hz.mono (a : Hz n cs h t xs) (hm : m ≤ n) : Hz m cs h t xs := a.imp id fun a => a.mono hm
/-- A row below n stays. -/
theorem Hd.fr (a : Hd m cs h t xs) (f : Fr_ n cs cs') (hn : h ≤ n) : Hd m cs' h t xs := ⟨a.1, (f.at_ (h - 1) (by have := a.1; omega)).trans a.2⟩
theorem Hz.fr (a : Hz m cs h t xs) (f : Fr_ n cs cs') (hn : h ≤ n) : Hz m cs' h t xs := a.imp id fun a => a.fr f hn
theorem Hz.fr' (a : Hz m cs h t xs) (f : Fr_ cs.length cs cs') : Hz m cs' h t xs := a.imp id fun a => a.fr f a.lt
theorem Hd.fr' (a : Hd m cs h t xs) (f : Fr_ cs.length cs cs') : Hd m cs' h t xs := a.fr f a.lt
/-- Another cell. -/
theorem Fr_.app (n : Nat) (hn : n ≤ cs.length) (c : H) : Fr_ n cs (cs ++ c) := ⟨by simp, fun j hj => List.getElem?_append_left (by omega)⟩
theorem Fr_.app' (c : H) : Fr_ cs.length cs (cs ++ c) := Fr_.app _ (Nat.le_refl _) c
theorem Hd.app (a : Hd n cs h t xs) (c : H) : Hd n (cs ++ c) h t xs := a.fr' (Fr_.app' c)
theorem Hz.app (a : Hz n cs h t xs) (c : H) : Hz n (cs ++ c) h t xs := a.fr' (Fr_.app' c)
theorem Hd.new (hn : n ≤ cs.length) (xs : List (TT t)) : Hd n (cs ++ [.arr t xs]) (cs.length + 1) t xs := ⟨by omega, by simp⟩
/-- A cell that is set. -/
theorem setc_len (cs : H) (h : Nat) (c : Cell TT) : (setc cs h c).length = cs.length := by cases h <;> simp [setc]
theorem setc2 (cs : H) (h : Nat) (c d : Cell TT) : setc (setc cs h c) h d = setc cs h d := by cases h <;> simp [setc]
theorem Fr_.set (hn : h = 0 ∨ n < h) (c : Cell TT) : Fr_ n cs (setc cs h c) := by
  refine ⟨by rw [setc_len]; exact Nat.le_refl _, fun j hj => ?_⟩
  cases h with
  | zero => rfl
  | succ i => simp only [setc]; rw [List.getElem?_set_ne (by omega)]
theorem Hd.set (a : Hd n cs h t xs) (ys : List (TT t')) : Hd n (setc cs h (.arr t' ys)) h t' ys := by
  obtain ⟨j, rfl, e⟩ := a.pos
  refine ⟨a.1, ?_⟩
  simp only [setc, Nat.add_sub_cancel]
  exact List.getElem?_set_self (List.getElem?_eq_some_iff.1 e).1
theorem Hd.ne (a : Hd n cs h t xs) (hh : h ≠ h') (c : Cell TT) : Hd n (setc cs h' c) h t xs := by
  refine ⟨a.1, ?_⟩
  cases h' with
  | zero => exact a.2
  | succ j => simp only [setc]; rw [List.getElem?_set_ne (by have := a.1; omega)]; exact a.2
theorem Hz.ne (a : Hz n cs h t xs) (hh : h = 0 ∨ h ≠ h') (c : Cell TT) : Hz n (setc cs h' c) h t xs := by
  rcases a with a | a
  · exact .inl a
  · exact .inr (a.ne (hh.resolve_left fun e => by have := a.1; omega) c)
theorem Hd.apart (a : Hd n cs h t xs) (b : Hd m cs h' t' ys) (ht : t ≠ t') : h ≠ h' := by
  rintro rfl
  have := a.2.symm.trans b.2
  simp only [Option.some.injEq, Cell.arr.injEq] at this
  exact ht this.1
theorem Hd.ty (a : Hd n cs h t xs) (b : Hd m cs h' t' ys) (ht : t ≠ t') (c : Cell TT) : Hd n (setc cs h' c) h t xs := a.ne (a.apart b ht) c
theorem Hz.ty (a : Hz n cs h t xs) (b : Hd m cs h' t' ys) (ht : t ≠ t') (c : Cell TT) : Hz n (setc cs h' c) h t xs := a.imp id fun a => a.ty b ht c
theorem Hd.uni (a : Hd n cs h t xs) {zs : List (TT t)} (b : Hd m cs h t zs) : xs = zs := by
  have := a.2.symm.trans b.2
  simpa using this
end

/-! ### small functions -/
theorem ok31 (k : Nat) (x a b : Int) : f31 k (x, a, b) = some (decide (a ≤ x) && decide (x ≤ b)) := by
  simp only [f31, start31, ge_iff_le]
  cases decide (a ≤ x) <;> rfl
theorem ok74 (k : Nat) (x : Int) : f74 k x = some (decide (0 ≤ x) && decide (x ≤ 63)) := by
  simp only [f74, start74, ok31, Option.bind_some]
theorem ok107 (k : Nat) (a : S76) : f107 k a = some (decide (0 ≤ a.f0 ∧ a.f0 ≤ 15 ∧ 1 ≤ a.f1 ∧ a.f0 + a.f1 ≤ 16)) := by
  simp only [f107, start107, ok31, Option.bind_some]
  by_cases h : 0 ≤ a.f0 ∧ a.f0 ≤ 15
  · obtain ⟨h1, h2⟩ := h
    rw [w64_id (by omega) (by omega)]
    simp only [h1, h2, decide_true, Bool.and_true, cond_true, true_and, Option.some.injEq]
    rw [← Bool.decide_and]
    congr 1
    apply propext
    omega
  · have : (decide (0 ≤ a.f0) && decide (a.f0 ≤ 15)) = false := by
      rw [← Bool.decide_and]; exact decide_eq_false h
    rw [this, cond_false, decide_eq_false (fun hh => h ⟨hh.1, hh.2.1⟩)]
theorem strOfNums_size (l : List Int) : (strOfNums l).size = l.length := by
  simp [strOfNums, ByteArray.size]
theorem ok111 (k : Nat) : Okk (f111 k ()) (fun r => r.size = 4) := by
  simp only [f111, start111]
  exact .ret (by rw [strOfNums_size]; rfl)
theorem ok77 (k : Nat) (s : ByteArray) (i b : Int) (hs : s.size = 4) (h0 : 0 ≤ i) (h1 : i < 4) : Okk (f77 k (s, i, b)) (fun r => r.size = 4) := by
  have e1 : w64 (i + 1) = i + 1 := w64_id (by omega) (by omega)
  have z1 : (ByteArray.extract s 0 i.toNat).size = i.toNat := by rw [ByteArray.size_extract]; omega
  have z2 : (ByteArray.extract s (i + 1).toNat s.size).size = 4 - (i + 1).toNat := by rw [ByteArray.size_extract]; omega
  have z3 : (strOfNums (List.map (fun x => x) [IntKind.wrap .u8 b])).size = 1 := strOfNums_size _
  have c1 : (i ≤ ((s.size : Nat) : Int)) := by omega
  have c2 : i + 1 ≤ ((s.size : Nat) : Int) := by omega
  have c3 : (0 : Int) ≤ i + 1 := by omega
  have c4 : i.toNat + 1 ≤ 9223372036854775807 := by omega
  have c5 : i.toNat + 1 + (4 - (i + 1).toNat) ≤ 9223372036854775807 := by omega
  unfold f77 start77
  simp only [e1, ByteArray.size_append, z1, z2, z3, h0, c1, c2, c3, c4, c5, decide_true, cond_true]
  refine .ret ?_
  rw [ByteArray.size_append, ByteArray.size_append, z1, z2, z3]; omega
end Go.Sx
namespace Go.Sx
open Go.RowKit
set_option linter.unusedVariables false
set_option linter.unusedSimpArgs false
theorem xor_pos {a b : Int} (ha : 0 ≤ a) (hb : 0 ≤ b) (ha2 : a < 4611686018427387904) (hb2 : b < 4611686018427387904) : 0 ≤ xor_ .i64 a b ∧ xor_ .i64 a b < 4611686018427387904 := by
  obtain ⟨m, rfl⟩ : ∃ m : Nat, a = m := ⟨a.toNat, by omega⟩
  obtain ⟨n, rfl⟩ : ∃ n : Nat, b = n := ⟨b.toNat, by omega⟩
  have e : xor_ .i64 (m : Int) (n : Int) = w64 ((m ^^^ n : Nat) : Int) := by
    unfold xor_ w64
    congr 1
    rw [show IntKind.bits .i64 = 64 from rfl]
    rw [BitVec.toNat_xor, BitVec.ofInt_natCast, BitVec.ofInt_natCast, BitVec.toNat_ofNat, BitVec.toNat_ofNat, Nat.mod_eq_of_lt (by omega), Nat.mod_eq_of_lt (by omega)]
  have h : m ^^^ n < 2 ^ 62 := Nat.xor_lt_two_pow (by omega) (by omega)
  rw [e, w64_id (by omega) (by omega)]
  omega
theorem tmod_pos {a n : Int} (ha : 0 ≤ a) (hn : 0 < n) : 0 ≤ Int.tmod a n ∧ Int.tmod a n < n := ⟨Int.tmod_nonneg n ha, Int.tmod_lt_of_pos a hn⟩
theorem tdiv_pos {a n : Int} (ha : 0 ≤ a) (hn : 0 < n) : 0 ≤ Int.tdiv a n ∧ Int.tdiv a n ≤ a := by
  rw [Int.tdiv_eq_ediv_of_nonneg ha]
  exact ⟨Int.ediv_nonneg ha (by omega), Int.ediv_le_self n ha⟩
def isB (b : List Int) : Prop := b.length ≤ 2000 ∧ ∀ x ∈ b, 0 ≤ x ∧ x ≤ 255
theorem isB.at_ {b : List Int} (h : isB b) {i : Int} (h0 : 0 ≤ i) (h1 : i < b.length) : 0 ≤ rd5 b i ∧ rd5 b i ≤ 255 := by
  obtain ⟨j, rfl⟩ : ∃ j : Nat, i = j := ⟨i.toNat, by omega⟩
  have hj : j < b.length := by omega
  rw [rd5_at hj]
  exact h.2 _ (List.getElem_mem hj)
theorem pick_spec (k : Nat) {b : List Int} (hb : isB b) (p n : Int) (hp : 0 ≤ p) (hp2 : p ≤ 1000000000000) : ∃ v, f29 (k + 1) (⟨b, p⟩, n) = some (v, ⟨b, p + 1⟩) ∧ 0 ≤ v ∧ (v < n ∨ v = 0) := by
  have e1 : w64 (p + 1) = p + 1 := w64_id (by omega) (by omega)
  simp only [f29, start29, e1]
  by_cases c0 : n < 1
  · exact ⟨0, by simp only [c0, decide_true, cond_true], Int.le_refl _, .inr rfl⟩
  simp only [c0, decide_false, cond_false]
  by_cases c1 : b.length = 0
  · exact ⟨0, by simp [c1], Int.le_refl _, .inr rfl⟩
  have c1' : (((b.length : Nat) : Int) == 0) = false := by rw [beq_eq_false_iff_ne]; omega
  rw [c1', cond_false, run_succ]
  have e2 : w64 (p + 1 - 1) = p := by rw [w64_id (by omega) (by omega)]; omega
  simp only [step29, e2]
  have hn : ¬ n = 0 := by omega
  have hl : (0 : Int) < ((b.length : Nat) : Int) := by omega
  have hl0 : ¬ (((b.length : Nat) : Int) = 0) := by omega
  have hlen : ((b.length : Nat) : Int) ≤ 2000 := by have := hb.1; omega
  by_cases c2 : p < ((b.length : Nat) : Int)
  · obtain ⟨r0, r1⟩ := hb.at_ hp c2
    have r2 : w64 (rd5 b p) = rd5 b p := w64_id (by omega) (by omega)
    obtain ⟨t0, t1⟩ := tmod_pos (a := rd5 b p) (n := n) r0 (by omega)
    exact ⟨Int.tmod (rd5 b p) n, by simp only [c2, hp, hn, decide_true, decide_false, cond_true, Bool.not_false, r2], t0, .inl t1⟩
  · obtain ⟨m0, m1⟩ := tmod_pos (a := p) hp hl
    have e7 : w64 (p * 7) = p * 7 := w64_id (by omega) (by omega)
    have e73 : w64 (p * 7 + 3) = p * 7 + 3 := w64_id (by omega) (by omega)
    obtain ⟨m2, m3⟩ := tmod_pos (a := p * 7 + 3) (by omega) hl
    obtain ⟨r0, r1⟩ := hb.at_ m0 m1
    obtain ⟨s0, s1⟩ := hb.at_ m2 m3
    obtain ⟨q0, q1⟩ := tdiv_pos (a := p) hp hl
    simp only [c2, decide_false, cond_false, e7, e73, hl0, m0, m1, m2, m3, hn, decide_true, Bool.not_false, cond_true]
    generalize rd5 b (Int.tmod p ((b.length : Nat) : Int)) = u at r0 r1
    generalize rd5 b (Int.tmod (p * 7 + 3) ((b.length : Nat) : Int)) = v at s0 s1
    generalize Int.tdiv p ((b.length : Nat) : Int) = q at q0 q1
    have z1 : w64 u = u := w64_id (by omega) (by omega)
    have z2 : w64 (u * 131) = u * 131 := w64_id (by omega) (by omega)
    have z3 : w64 v = v := w64_id (by omega) (by omega)
    have z4 : w64 (v * 1117) = v * 1117 := w64_id (by omega) (by omega)
    have z5 : w64 (u * 131 + v * 1117) = u * 131 + v * 1117 := w64_id (by omega) (by omega)
    have z6 : w64 (p * 29) = p * 29 := w64_id (by omega) (by omega)
    have z7 : w64 (u * 131 + v * 1117 + p * 29) = u * 131 + v * 1117 + p * 29 := w64_id (by omega) (by omega)
    have z8 : w64 q = q := w64_id (by omega) (by omega)
    have z9 : w64 (q * 53) = q * 53 := w64_id (by omega) (by omega)
    have z10 : w64 (u * 131 + v * 1117 + p * 29 + q * 53) = u * 131 + v * 1117 + p * 29 + q * 53 := w64_id (by omega) (by omega)
    simp only [z1, z2, z3, z4, z5, z6, z7, z8, z9, z10]
    have y0 : 0 ≤ u * 131 + v * 1117 + p * 29 + q * 53 := by omega
    have y1 : u * 131 + v * 1117 + p * 29 + q * 53 < 4611686018427387904 := by omega
    generalize u * 131 + v * 1117 + p * 29 + q * 53 = x at y0 y1
    obtain ⟨d0, d1⟩ := tdiv_pos (a := x) (n := 64) y0 (by decide)
    rw [w64_id (x := Int.tdiv x 64) (by omega) (by omega)]
    obtain ⟨x0, _⟩ := xor_pos y0 d0 y1 (by omega)
    obtain ⟨t0, t1⟩ := tmod_pos (n := n) x0 (by omega)
    exact ⟨_, rfl, t0, .inl t1⟩
/-- A draw below a number. -/
theorem pick_lt' (k : Nat) {b : List Int} (hb : isB b) (p n : Int) (hp : 0 ≤ p) (hp2 : p ≤ 1000000000000) (hn : 0 < n) : ∃ v, f29 (k + 1) (⟨b, p⟩, n) = some (v, ⟨b, p + 1⟩) ∧ 0 ≤ v ∧ v < n := by
  obtain ⟨v, h1, h2, h3⟩ := pick_spec k hb p n hp hp2
  exact ⟨v, h1, h2, by omega⟩
theorem rd9_sz {l : List ByteArray} {m : Nat} (h : ∀ x ∈ l, x.size ≤ m) {i : Int} (h0 : 0 ≤ i) (h1 : i < l.length) : (rd9 l i).size ≤ m := by
  obtain ⟨j, rfl⟩ : ∃ j : Nat, i = j := ⟨i.toNat, by omega⟩
  have hj : j < l.length := by omega
  rw [rd9_at hj]
  exact h _ (List.getElem_mem hj)

/-- The reader: what it reads, and how far it may be. -/
structure Rd (c : Int) (r : S94) : Prop where
  b : isB r.f0
  lo : 0 ≤ r.f1
  hi : r.f1 ≤ c
theorem Rd.mono {c d : Int} {r : S94} (h : Rd c r) (hd : c ≤ d) : Rd d r := ⟨h.b, h.lo, Int.le_trans h.hi hd⟩
theorem ok29 (k : Nat) (hk : 100 < k) {c : Int} {r : S94} (R : Rd c r) (hc : c ≤ 1000000000) (n : Int) (hn : 0 < n) : Okk (f29 k (r, n)) (fun q => 0 ≤ q.1 ∧ q.1 < n ∧ Rd (c + 1) q.2) := by
  obtain ⟨b, p⟩ := r
  obtain ⟨h1, h2, h3⟩ := R
  simp only at h1 h2 h3
  obtain ⟨k, rfl⟩ : ∃ j, k = j + 1 := ⟨k - 1, by omega⟩
  obtain ⟨v, e, v0, v1⟩ := pick_lt' k h1 p n h2 (by omega) hn
  exact ⟨_, e, v0, v1, h1, by simp only; omega, by simp only; omega⟩
theorem ok72 (k : Nat) (hk : 100 < k) {c : Int} {r : S94} (R : Rd c r) (hc : c ≤ 900000000) : Okk (f72 k (r, ())) (fun q => Rd (c + 6) q.2) := by
  unfold f72 start72
  refine .bnd (ok29 k hk R (by omega) 16 (by decide)) fun r0 h0 => ?_
  refine .bnd (ok29 k hk h0.2.2 (by omega) 5 (by decide)) fun r1 h1 => ?_
  refine .bnd (ok29 k hk h1.2.2 (by omega) 4 (by decide)) fun r2 h2 => ?_
  refine .bnd (ok29 k hk h2.2.2 (by omega) 3 (by decide)) fun r3 h3 => ?_
  refine .bnd (ok29 k hk h3.2.2 (by omega) 20 (by decide)) fun r4 h4 => ?_
  refine .cnd (fun _ => ?_) fun _ => .ret (h4.2.2.mono (by omega))
  refine .bnd (ok29 k hk h4.2.2 (by omega) 4 (by decide)) fun r5 h5 => ?_
  obtain ⟨a1, a2, a3⟩ := h5
  (repeat (refine Okk.chk (by omega) ?_))
  exact .ret (a3.mono (by omega))
theorem ok28 (k : Nat) (xs : List Int) (hx : ∀ x ∈ xs, 0 ≤ x ∧ x ≤ 255) : Okk (f28 k xs) (fun q => Rd 0 q.1) := by
  unfold f28 start28
  refine .cnd (fun h => ?_) fun h => .ret ⟨⟨?_, hx⟩, Int.le_refl _, Int.le_refl _⟩
  · have := of_decide_eq_true h
    (repeat (refine Okk.chk (by omega) ?_))
    refine .ret ⟨⟨by simp; omega, fun x h => hx x ?_⟩, Int.le_refl _, Int.le_refl _⟩
    simp only [List.drop_zero] at h
    exact List.mem_of_mem_take h
  · have := of_decide_eq_false h
    simp only; omega
end Go.Sx
namespace Go.Sx
open Go.RowKit
set_option linter.unusedVariables false
set_option linter.unusedSimpArgs false

/-! ### areas -/
theorem rd76_mem {l : List S76} {i : Int} (h0 : 0 ≤ i) (h1 : i < ((l.length : Nat) : Int)) : rd76 l i ∈ l := by
  obtain ⟨j, rfl⟩ : ∃ j : Nat, i = j := ⟨i.toNat, by omega⟩
  have hj : j < l.length := by omega
  rw [rd76_at hj]; exact List.getElem_mem hj

section
variable {n ha : Nat} {cs : H} {xs : List S76}

theorem ok76 (k : Nat) (a : Hz n cs ha 76 xs) (page : Int) (hs : xs.length ≤ 1000) : ∀ (d i k' : Nat), i + d = xs.length → d < k' →
    Okk (run (step76 (f31 k)) k' (J76.j2 ha page (i : Int) cs)) (fun r => r.2 = cs ∧ (r.1 = -1 ∨ (0 ≤ r.1 ∧ r.1 < ((xs.length : Nat) : Int))))
  | d, i, 0, _, h => by omega
  | 0, i, k' + 1, h, _ => by
    rw [run_succ]; simp only [step76, a.okA, a.okR, a.rdc, cond_true]
    have e : decide ((i : Int) < ((xs.length : Nat) : Int)) = false := decide_eq_false (by omega)
    rw [e]; exact .ret ⟨rfl, .inl rfl⟩
  | d + 1, i, k' + 1, h, hk => by
    rw [run_succ]; simp only [step76, a.okA, a.okR, a.rdc, cond_true]
    have e : decide ((i : Int) < ((xs.length : Nat) : Int)) = true := decide_eq_true (by omega)
    have e0 : decide ((0 : Int) ≤ (i : Int)) = true := decide_eq_true (by omega)
    simp only [e, e0, cond_true, ok31, Option.bind_some]
    rw [wsucc (by omega)]
    exact .cnd (fun _ => .ret ⟨rfl, .inr ⟨by simp only; omega, by simp only; omega⟩⟩) (fun _ => ok76 k a page hs d (i + 1) k' (by omega) (by omega))
theorem ok76' (k : Nat) (hk : 2000 < k) (a : Hz n cs ha 76 xs) (hs : xs.length ≤ 1000) (page : Int) : Okk (f76 k (cs, ha, page)) (fun r => r.2 = cs ∧ (r.1 = -1 ∨ (0 ≤ r.1 ∧ r.1 < ((xs.length : Nat) : Int)))) := by
  unfold f76 start76
  exact ok76 k a page hs xs.length 0 k (by omega) (by omega)

theorem ok102 (k : Nat) (a : Hz n cs ha 76 xs) (hs : xs.length ≤ 1000) : ∀ (d i k' : Nat), i + d = xs.length → 2 * d < k' →
    Okk (run (step102 (f107 k)) k' (J102.j2 ha (i : Int) cs)) (fun r => r.2 = cs ∧ (r.1 = true → xs.length ≤ 6))
  | d, i, 0, _, h => by omega
  | 0, i, k' + 1, h, _ => by
    rw [run_succ]; simp only [step102, a.okA, a.okR, a.rdc, cond_true]
    have e : decide ((i : Int) < ((xs.length : Nat) : Int)) = false := decide_eq_false (by omega)
    rw [e]; exact .ret ⟨rfl, fun h => by have := of_decide_eq_true h; omega⟩
  | d + 1, i, 1, h, hk => by omega
  | d + 1, i, k' + 2, h, hk => by
    have ih := ok102 k a hs d (i + 1) k' (by omega) (by omega)
    rw [run_succ]; simp only [step102, a.okA, a.okR, a.rdc, cond_true]
    have e : decide ((i : Int) < ((xs.length : Nat) : Int)) = true := decide_eq_true (by omega)
    have e0 : decide ((0 : Int) ≤ (i : Int)) = true := decide_eq_true (by omega)
    simp only [e, e0, cond_true, ok107, Option.bind_some]
    have nx : run (step102 (f107 k)) (k' + 1) (J102.j3 ha (i : Int) cs) = run (step102 (f107 k)) k' (J102.j2 ha ((i + 1 : Nat) : Int) cs) := by
      rw [run_succ]; simp only [step102]; rw [wsucc (by omega)]
    refine .cnd (fun _ => .ret ⟨rfl, fun h => by cases h⟩) fun _ => .cnd (fun c => ?_) fun _ => by rw [nx]; exact ih
    have c := of_decide_eq_true c
    rw [w64_id (x := (i : Int) - 1) (by omega) (by omega)]
    (repeat (refine Okk.chk (by omega) ?_))
    exact .cnd (fun _ => .ret ⟨rfl, fun h => by cases h⟩) fun _ => by rw [nx]; exact ih
theorem ok102' (k : Nat) (hk : 3000 < k) (a : Hz n cs ha 76 xs) (hs : xs.length ≤ 1000) : Okk (f102 k (cs, ha)) (fun r => r.2 = cs ∧ (r.1 = true → xs.length ≤ 6)) := by
  unfold f102 start102
  exact ok102 k a hs xs.length 0 k (by omega) (by omega)
end

/-- A row that grows: its old cell is gone, two new ones stand. -/
theorem grow {m n o : Nat} {cs : H} {t : Nat} {ys : List (TT t)} (b : Hd m cs o t ys) (hm : n ≤ m) (hn : n ≤ cs.length) (c : Cell TT) (zs : List (TT t)) :
    Fr_ n cs ((setc cs o .dead ++ [c]) ++ [.arr t zs]) ∧ Hd m ((setc cs o .dead ++ [c]) ++ [.arr t zs]) ((setc cs o .dead ++ [c]).length + 1) t zs := by
  have hl : m < cs.length := by have := b.1; have := b.lt; omega
  refine ⟨((Fr_.set (.inr (by have := b.1; omega)) _).trans (.app n (by rw [setc_len]; exact hn) _)).trans (.app n (by rw [List.length_append, setc_len]; omega) _), .new (by rw [List.length_append, setc_len]; omega) zs⟩

section
variable {n ha : Nat} {xs : List S76}
theorem ok108 (hs : xs.length ≤ 6) (x5 x6 : Int) (x7 x8 : Bool) : ∀ (d i k' o : Nat) (done : Bool) (cs : H) (ys : List S76), Hz 0 cs ha 76 xs → ha ≤ n → i + d = xs.length → 3 * d + 2 < k' → Hd n cs o 76 ys → ys.length ≤ i + 1 → (done = false → ys.length ≤ i) →
    Okk (run step108 k' (J108.j4 ha o done (i : Int) cs x5 x6 x7 x8)) (fun r => Fr_ n cs r.2 ∧ ∃ zs, Hd n r.2 r.1 76 zs ∧ zs.length ≤ 7)
  | d, i, 0, o, done, cs, ys, a, hn, h, hk, b, hl, hd => by omega
  | 0, i, k' + 1, o, done, cs, ys, a, hn, h, hk, b, hl, hd => by
    rw [run_succ]; simp only [step108, a.okA, a.okR, a.rdc, b.okA, b.rdc, cond_true]
    have e : decide ((i : Int) < ((xs.length : Nat) : Int)) = false := decide_eq_false (by omega)
    rw [e, cond_false]
    refine .cnd (fun c => ?_) fun c => .ret ⟨.refl _ _, ys, b, by omega⟩
    have hd := hd (by simpa using c)
    refine .chk (by simp only [List.length_cons, List.length_nil]; omega) (.ret ?_)
    have hc : n ≤ cs.length := by have := b.1; have := b.lt; omega
    obtain ⟨g1, g2⟩ := grow b (Nat.le_refl _) hc (Cell.arr (T := TT) 76 [(⟨x5, x6, x7, x8⟩ : S76)]) (ys ++ [(⟨x5, x6, x7, x8⟩ : S76)])
    exact ⟨g1, _, g2, by simp; omega⟩
  | d + 1, i, k' + 1, o, done, cs, ys, a, hn, h, hk, b, hl, hd => by
    obtain ⟨k', rfl⟩ : ∃ j, k' = j + 2 := ⟨k' - 2, by omega⟩
    have e : decide ((i : Int) < ((xs.length : Nat) : Int)) = true := decide_eq_true (by omega)
    have e0 : decide ((0 : Int) ≤ (i : Int)) = true := decide_eq_true (by omega)
    have j9 : ∀ (k2 : Nat) (o : Nat) (done : Bool) (cs : H) (ys : List S76), k' + 1 ≤ k2 → Hz 0 cs ha 76 xs → Hd n cs o 76 ys → ys.length ≤ i + 1 → (done = false → ys.length ≤ i) → Okk (run step108 k2 (J108.j9 ha o done (i : Int) cs x5 x6 x7 x8)) (fun r => Fr_ n cs r.2 ∧ ∃ zs, Hd n r.2 r.1 76 zs ∧ zs.length ≤ 7) := by
      intro k2 o done cs ys hk2 a b hl hd
      obtain ⟨k2, rfl⟩ : ∃ j, k2 = j + 1 := ⟨k2 - 1, by omega⟩
      rw [run_succ]; simp only [step108, a.okA, a.okR, a.rdc, b.okA, b.rdc, cond_true, e, e0]
      refine .chk (by simp only [List.length_cons, List.length_nil]; omega) ?_
      have hc : n ≤ cs.length := by have := b.1; have := b.lt; omega
      obtain ⟨g1, g2⟩ := grow b (Nat.le_refl _) hc (Cell.arr (T := TT) 76 [rd76 xs (i : Int)]) (ys ++ [rd76 xs (i : Int)])
      rw [wsucc (by omega)]
      refine (ok108 hs x5 x6 x7 x8 d (i + 1) k2 _ done _ _ (a.fr g1 hn) hn (by omega) (by omega) g2 (by simp; omega) (fun h => by have := hd h; simp; omega)).mono fun r hr => ⟨g1.trans hr.1, hr.2⟩
    rw [run_succ]; simp only [step108, a.okA, a.okR, a.rdc, b.okA, b.rdc, cond_true, e, e0]
    refine .cnd (fun c => ?_) fun c => j9 _ o done cs ys (by omega) a b hl hd
    have c := hd (by simpa using c)
    refine .cnd (fun _ => ?_) fun _ => j9 _ o done cs ys (by omega) a b hl hd
    rw [run_succ]; simp only [step108, b.okA, b.rdc, cond_true]
    refine .chk (by simp only [List.length_cons, List.length_nil]; omega) ?_
    have hc : n ≤ cs.length := by have := b.1; have := b.lt; omega
    obtain ⟨g1, g2⟩ := grow b (Nat.le_refl _) hc (Cell.arr (T := TT) 76 [(⟨x5, x6, x7, x8⟩ : S76)]) (ys ++ [(⟨x5, x6, x7, x8⟩ : S76)])
    refine (j9 _ _ true _ _ (by omega) (a.fr g1 hn) g2 (by simp; omega) (fun h => by cases h)).mono fun r hr => ⟨g1.trans hr.1, hr.2⟩
theorem ok108' {cs : H} (k : Nat) (hk : 100 < k) (a : Hz 0 cs ha 76 xs) (hs : xs.length ≤ 6) (x : S76) : Okk (f108 k (cs, ha, x)) (fun r => Fr_ cs.length cs r.2 ∧ ∃ zs, Hd cs.length r.2 r.1 76 zs ∧ zs.length ≤ 7) := by
  unfold f108 start108
  have hh : ha ≤ cs.length := by
    rcases a with a | a
    · omega
    · exact a.lt
  have key := ok108 (n := cs.length) hs x.f0 x.f1 x.f2 x.f3 xs.length 0 k (cs.length + 1) false (cs ++ [.arr 76 []]) [] (a.app _) hh (by omega) (by omega) (.new (Nat.le_refl _) _) (by simp) (fun _ => by simp)
  exact Okk.mono key fun r hr => And.intro ((Fr_.app' _).trans hr.1) hr.2

/-- AreasAdd. -/
theorem ok94 {cs : H} (k : Nat) (hk : 3000 < k) (a : Hz 0 cs ha 76 xs) (hs : xs.length ≤ 1000) (x : S76) : Okk (f94 k (cs, ha, x)) (fun r => Fr_ cs.length cs r.2 ∧ ∃ zs, Hd cs.length r.2 r.1.1 76 zs ∧ zs.length ≤ 6) := by
  have bad : Okk (some (((cs.length + 1, false), cs ++ [Cell.arr (T := TT) 76 ([] : List S76)]) : (Nat × Bool) × H)) (fun r => Fr_ cs.length cs r.2 ∧ ∃ zs, Hd cs.length r.2 r.1.1 76 zs ∧ zs.length ≤ 6) := .ret ⟨.app' _, [], .new (Nat.le_refl _) _, by simp⟩
  unfold f94 start94
  refine .bnd (ok102' k hk a hs) fun r h0 => ?_
  obtain ⟨r1, r2⟩ := r
  obtain ⟨e, h6⟩ := h0
  simp only at e
  subst e
  refine .cnd (fun _ => bad) fun c => ?_
  have h6 := h6 (by simpa using c)
  rw [ok107, Option.bind_some]
  refine .cnd (fun _ => bad) fun c => ?_
  obtain ⟨k', e⟩ : ∃ j, k = j + 1 := ⟨k - 1, by omega⟩
  rw [show run (step94 (f102 k) (f107 k) (f108 k)) k = run (step94 (f102 k) (f107 k) (f108 k)) (k' + 1) from by rw [← e], run_succ]
  simp only [step94]
  refine .bnd (ok108' k (by omega) a h6 _) fun r h0 => ?_
  obtain ⟨f1, zs, b, hz⟩ := h0
  refine .bnd (ok102' k hk b.z (by omega)) fun q hq => ?_
  obtain ⟨q1, q2⟩ := q
  obtain ⟨e, h7⟩ := hq
  simp only at e
  subst e
  refine .cnd (fun _ => .ret ⟨f1.trans (.app _ f1.le _), [], .new f1.le _, by simp⟩) fun c => .ret ⟨f1, zs, b, h7 (by simpa using c)⟩

/-- l2Cut. -/
theorem ok118 (hs : xs.length ≤ 6) (k : Nat) (u v : Int) : ∀ (d i k' o : Nat) (cs : H) (ys : List S76), Hz 0 cs ha 76 xs → ha ≤ n → i + d = xs.length → 3 * d < k' → Hd n cs o 76 ys → ys.length ≤ 2 * i →
    Okk (run (step118 (f119 k)) k' (J118.j3 ha u v o (i : Int) cs)) (fun r => Fr_ n cs r.2 ∧ ∃ zs, Hd n r.2 r.1 76 zs ∧ zs.length ≤ 12)
  | d, i, 0, o, cs, ys, a, hn, h, hk, b, hl => by omega
  | 0, i, k' + 1, o, cs, ys, a, hn, h, hk, b, hl => by
    rw [run_succ]; simp only [step118, a.okA, a.okR, a.rdc, cond_true]
    have e : decide ((i : Int) < ((xs.length : Nat) : Int)) = false := decide_eq_false (by omega)
    rw [e, cond_false]
    exact .ret ⟨.refl _ _, ys, b, by omega⟩
  | d + 1, i, k' + 1, o, cs, ys, a, hn, h, hk, b, hl => by
    obtain ⟨k', rfl⟩ : ∃ j, k' = j + 2 := ⟨k' - 2, by omega⟩
    have e : decide ((i : Int) < ((xs.length : Nat) : Int)) = true := decide_eq_true (by omega)
    have e0 : decide ((0 : Int) ≤ (i : Int)) = true := decide_eq_true (by omega)
    have j4 : ∀ (o : Nat) (cs : H) (ys : List S76), Hz 0 cs ha 76 xs → Hd n cs o 76 ys → ys.length ≤ 2 * i + 2 → Okk (run (step118 (f119 k)) (k' + 1) (J118.j4 ha u v o (i : Int) cs)) (fun r => Fr_ n cs r.2 ∧ ∃ zs, Hd n r.2 r.1 76 zs ∧ zs.length ≤ 12) := by
      intro o cs ys a b hl
      rw [run_succ]; simp only [step118]
      rw [wsucc (by omega)]
      exact ok118 hs k u v d (i + 1) k' o cs ys a hn (by omega) (by omega) b (by omega)
    have j9 : ∀ (o : Nat) (p : Bool) (cs : H) (ys : List S76) (x7 x8 : Int) (x9 x10 : Bool), Hz 0 cs ha 76 xs → Hd n cs o 76 ys → ys.length ≤ 2 * i + 1 → Okk (run (step118 (f119 k)) (k' + 2) (J118.j9 ha u v o (i : Int) p cs x7 x8 x9 x10)) (fun r => Fr_ n cs r.2 ∧ ∃ zs, Hd n r.2 r.1 76 zs ∧ zs.length ≤ 12) := by
      intro o p cs ys x7 x8 x9 x10 a b hl
      rw [run_succ]; simp only [step118, b.okA, b.rdc, cond_true]
      refine .cnd (fun _ => ?_) fun _ => j4 o cs ys a b (by omega)
      refine .chk (by simp only [List.length_cons, List.length_nil]; omega) ?_
      have hc : n ≤ cs.length := by have := b.1; have := b.lt; omega
      obtain ⟨g1, g2⟩ := grow b (Nat.le_refl _) hc (Cell.arr (T := TT) 76 [(⟨x7, x8, x9, x10⟩ : S76)]) (ys ++ [(⟨x7, x8, x9, x10⟩ : S76)])
      exact (j4 _ _ _ (a.fr g1 hn) g2 (by simp; omega)).mono fun r hr => ⟨g1.trans hr.1, hr.2⟩
    rw [run_succ]; simp only [step118, a.okA, a.okR, a.rdc, b.okA, b.rdc, cond_true, e, e0]
    have t119 : ∀ (z : S76) (p q : Int), Okk (f119 k (z, p, q)) (fun _ => True) := fun z p q => by
      unfold f119 start119
      exact .cnd (fun _ => .ret trivial) fun _ => .ret trivial
    refine .bnd (t119 _ _ _) fun r0 _ => .bnd (t119 _ _ _) fun r1 _ => .cnd (fun _ => ?_) fun _ => j9 o _ cs ys _ _ _ _ a b (by omega)
    refine .chk (by simp only [List.length_cons, List.length_nil]; omega) ?_
    have hc : n ≤ cs.length := by have := b.1; have := b.lt; omega
    obtain ⟨g1, g2⟩ := grow b (Nat.le_refl _) hc (Cell.arr (T := TT) 76 [r0.fst]) (ys ++ [r0.fst])
    exact (j9 _ _ _ _ _ _ _ _ (a.fr g1 hn) g2 (by simp; omega)).mono fun r hr => ⟨g1.trans hr.1, hr.2⟩
theorem ok118' {cs : H} (k : Nat) (hk : 100 < k) (a : Hz 0 cs ha 76 xs) (hs : xs.length ≤ 6) (u v : Int) : Okk (f118 k (cs, ha, u, v)) (fun r => Fr_ cs.length cs r.2 ∧ ∃ zs, Hd cs.length r.2 r.1 76 zs ∧ zs.length ≤ 12) := by
  unfold f118 start118
  have hh : ha ≤ cs.length := by
    rcases a with a | a
    · omega
    · exact a.lt
  have key := ok118 (n := cs.length) hs k u v xs.length 0 k (cs.length + 1) (cs ++ [.arr 76 []]) [] (a.app _) hh (by omega) (by omega) (.new (Nat.le_refl _) _) (by simp)
  exact Okk.mono key fun r hr => And.intro ((Fr_.app' _).trans hr.1) hr.2
/-- AreasCut. -/
theorem ok114 {cs : H} (k : Nat) (hk : 3000 < k) (a : Hz 0 cs ha 76 xs) (hs : xs.length ≤ 1000) (u v : Int) : Okk (f114 k (cs, ha, u, v)) (fun r => Fr_ cs.length cs r.2 ∧ (∃ zs, Hd cs.length r.2 r.1.1 76 zs ∧ zs.length ≤ 6) ∧ (r.1.2 = true → 0 ≤ u ∧ 1 ≤ v ∧ u + v ≤ 16)) := by
  have bad : Okk (some (((cs.length + 1, false), cs ++ [Cell.arr (T := TT) 76 ([] : List S76)]) : (Nat × Bool) × H)) (fun r => Fr_ cs.length cs r.2 ∧ (∃ zs, Hd cs.length r.2 r.1.1 76 zs ∧ zs.length ≤ 6) ∧ (r.1.2 = true → 0 ≤ u ∧ 1 ≤ v ∧ u + v ≤ 16)) := .ret ⟨.app' _, ⟨[], .new (Nat.le_refl _) _, by simp⟩, fun h => by cases h⟩
  unfold f114 start114
  refine .bnd (ok102' k hk a hs) fun r h0 => ?_
  obtain ⟨r1, r2⟩ := r
  obtain ⟨e, h6⟩ := h0
  simp only at e
  subst e
  refine .cnd (fun _ => bad) fun c => ?_
  have h6 := h6 (by simpa using c)
  rw [ok107, Option.bind_some]
  refine .cnd (fun _ => bad) fun c => ?_
  simp only [Bool.not_eq_false', decide_eq_true_eq] at c
  obtain ⟨k', e⟩ : ∃ j, k = j + 1 := ⟨k - 1, by omega⟩
  rw [show run (step114 (f102 k) (f107 k) (f118 k)) k = run (step114 (f102 k) (f107 k) (f118 k)) (k' + 1) from by rw [← e], run_succ]
  simp only [step114]
  refine .bnd (ok118' k (by omega) a h6 _ _) fun r h0 => ?_
  obtain ⟨f1, zs, b, hz⟩ := h0
  refine .bnd (ok102' k hk b.z (by omega)) fun q hq => ?_
  obtain ⟨q1, q2⟩ := q
  obtain ⟨e, h7⟩ := hq
  simp only at e
  subst e
  refine .cnd (fun _ => .ret ⟨f1.trans (.app _ f1.le _), ⟨[], .new f1.le _, by simp⟩, fun h => by cases h⟩) fun c' => .ret ⟨f1, ⟨zs, b, h7 (by simpa using c')⟩, fun _ => by omega⟩
end
end Go.Sx
