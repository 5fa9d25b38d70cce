/- An evaluator of the model's code over symbolic values, and its soundness: part 1. No condition. -/
import Derived.Test.YtecniihieninjaaSyAB
import Derived.WalkKit
import Derived.Maps.AppendAt
set_option linter.unusedVariables false
set_option linter.unusedSimpArgs false
namespace Go.Sx
open Go.RowKit
variable {T : Nat → Type}

/-- Cells that stand still; and, if it is told, which blocks hold one row alone: its length and capacity. -/
structure Mem where
  pin : Nat → Nat → Option Value
  bp : Option (Nat → Option (Nat × Nat))
  hp : Nat → Option Value
instance : CoeFun Mem fun _ => Nat → Nat → Option Value := ⟨Mem.pin⟩

inductive VR (U : Univ T) (ρ : Nat → Option Value) (M : Mem) : SV T → Value → Prop
  | any (x : Value) : VR U ρ M .any x
  | v (x : Value) : VR U ρ M (.v x) x
  | row (t : Nat) (xs : List (T t)) (A : Option Addr) (c : Nat) (f : Nat → Nat → Value)
      (hc : xs.length ≤ c) (h0 : A = none → xs = [] ∧ c = 0) (hs : ∀ a, A = some a → xs ≠ [] → a.spot = none)
      (hm : ∀ a, A = some a → ∀ i (h : i < xs.length) j, j < (U.enc t xs[i]).length → M a.block (a.off + i * U.sz t + j) = some (f i j))
      (hf : ∀ i (h : i < xs.length) j, j < (U.enc t xs[i]).length → (f i j).oneCell' = true)
      (hv : ∀ i (h : i < xs.length) j (hj : j < (U.enc t xs[i]).length), VR U ρ M (U.enc t xs[i])[j] (f i j))
      (he : ∀ B, M.bp = some B → U.em = some t → ∀ a, A = some a → B a.block = some (xs.length, c) ∧ a.off = 0 ∧ a.spot = none) : VR U ρ M (.row t xs) (.slice A xs.length c)
  | sub (t : Nat) (xs : List (T t)) (A : Option Addr) (c : Nat) (f : Nat → Nat → Value)
      (hc : xs.length ≤ c) (h0 : A = none → xs = [] ∧ c = 0) (hs : ∀ a, A = some a → xs ≠ [] → a.spot = none)
      (hm : ∀ a, A = some a → ∀ i (h : i < xs.length) j, j < (U.enc t xs[i]).length → M a.block (a.off + i * U.sz t + j) = some (f i j))
      (hf : ∀ i (h : i < xs.length) j, j < (U.enc t xs[i]).length → (f i j).oneCell' = true)
      (hv : ∀ i (h : i < xs.length) j (hj : j < (U.enc t xs[i]).length), VR U ρ M (U.enc t xs[i])[j] (f i j)) : VR U ρ M (.sub t xs) (.slice A xs.length c)
  | own (b : Nat) (a : Option Addr) (n c : Nat) : ρ b = some (.slice a n c) → VR U ρ M (.own b) (.slice a n c)
  | ptr (b g off : Nat) : ρ b = some (.pointer (some ⟨g, 0, none⟩)) → VR U ρ M (.ptr b off) (.pointer (some ⟨g, off, none⟩))
  | eptr (b g n c t : Nat) (i : Int) (off : Nat) : ρ b = some (.slice (some ⟨g, 0, none⟩) n c) → VR U ρ M (.eptr b t i off) (.pointer (some ⟨g, i.toNat * U.sz t + off, none⟩))
  | rptr (t : Nat) (xs : List (T t)) (i : Int) (off g o : Nat) (f : Nat → Value) (h0 : 0 ≤ i) (h1 : i.toNat < xs.length)
      (hm : ∀ j, j < (U.enc t xs[i.toNat]).length → M g (o + j) = some (f j))
      (hf : ∀ j, j < (U.enc t xs[i.toNat]).length → (f j).oneCell' = true)
      (hv : ∀ j (hj : j < (U.enc t xs[i.toNat]).length), VR U ρ M (U.enc t xs[i.toNat])[j] (f j)) : VR U ρ M (.rptr t xs i off) (.pointer (some ⟨g, o + off, none⟩))
  | hnd0 (t : Nat) : VR U ρ M (.hnd t 0) (.slice none 0 0)
  | hnd (t j : Nat) (a : Option Addr) (n c : Nat) : M.hp j = some (.slice a n c) → VR U ρ M (.hnd t (j + 1)) (.slice a n c)
  | hptr (j g n c t : Nat) (i : Int) (off : Nat) : M.hp j = some (.slice (some ⟨g, 0, none⟩) n c) → VR U ρ M (.hptr (j + 1) t i off) (.pointer (some ⟨g, i.toNat * U.sz t + off, none⟩))
  | agg (l : List (SV T)) (vs : List Value) (hl : l.length = vs.length) (hf : ∀ v ∈ vs, v.oneCell' = true) (h : ∀ i (h1 : i < l.length) (h2 : i < vs.length), VR U ρ M l[i] vs[i]) : VR U ρ M (.agg l) (.agg vs.toArray)
  | tup (l : List (SV T)) (vs : List Value) (hl : l.length = vs.length) (h : ∀ i (h1 : i < l.length) (h2 : i < vs.length), VR U ρ M l[i] vs[i]) : VR U ρ M (.tup l) (.tuple vs.toArray)

section
variable {U : Univ T} {ρ ρ' : Nat → Option Value} {M M' : Mem}

def LeR (ρ ρ' : Nat → Option Value) : Prop := ∀ b v, ρ b = some v → ρ' b = some v
structure LeM (M M' : Mem) : Prop where
  pin : ∀ b o v, M b o = some v → M' b o = some v
  bp : ∀ B', M'.bp = some B' → ∃ B, M.bp = some B ∧ ∀ g x, B g = some x → B' g = some x
  hp : ∀ j v, M.hp j = some v → M'.hp j = some v
theorem LeR.refl (ρ : Nat → Option Value) : LeR ρ ρ := fun _ _ h => h
theorem LeM.refl (M : Mem) : LeM M M := ⟨fun _ _ _ h => h, fun B h => ⟨B, h, fun _ _ h => h⟩, fun _ _ h => h⟩
theorem LeR.trans {a b c : Nat → Option Value} (h : LeR a b) (k : LeR b c) : LeR a c := fun _ _ e => k _ _ (h _ _ e)
theorem LeM.trans {a b c : Mem} (h : LeM a b) (k : LeM b c) : LeM a c := ⟨fun _ _ _ e => k.pin _ _ _ (h.pin _ _ _ e), fun B e => by
  obtain ⟨B1, e1, h1⟩ := k.bp B e
  obtain ⟨B2, e2, h2⟩ := h.bp B1 e1
  exact ⟨B2, e2, fun g x hx => h1 g x (h2 g x hx)⟩, fun j v e => k.hp j v (h.hp j v e)⟩

theorem VR.mono (hρ : LeR ρ ρ') (hM : LeM M M') {s : SV T} {x : Value} (h : VR U ρ M s x) : VR U ρ' M' s x := by
  induction h with
  | any x => exact .any x
  | v x => exact .v x
  | row t xs A c f hc h0 hs hm hf hv he ih => exact .row t xs A c f hc h0 hs (fun a ha i h j hj => hM.pin _ _ _ (hm a ha i h j hj)) hf ih (fun B hB hem a ha => by
      obtain ⟨B0, h1, h2⟩ := hM.bp B hB
      obtain ⟨k1, k2⟩ := he B0 h1 hem a ha
      exact ⟨h2 _ _ k1, k2⟩)
  | sub t xs A c f hc h0 hs hm hf hv ih => exact .sub t xs A c f hc h0 hs (fun a ha i h j hj => hM.pin _ _ _ (hm a ha i h j hj)) hf ih
  | own b a n c h => exact .own b a n c (hρ _ _ h)
  | ptr b g off h => exact .ptr b g off (hρ _ _ h)
  | eptr b g n c t i off h => exact .eptr b g n c t i off (hρ _ _ h)
  | rptr t xs i off g o f h0 h1 hm hf hv ih => exact .rptr t xs i off g o f h0 h1 (fun j hj => hM.pin _ _ _ (hm j hj)) hf ih
  | hnd0 t => exact .hnd0 t
  | hnd t j a n c h => exact .hnd t j a n c (hM.hp _ _ h)
  | hptr j g n c t i off h => exact .hptr j g n c t i off (hM.hp _ _ h)
  | agg l vs hl hf h ih => exact .agg l vs hl hf ih
  | tup l vs hl h ih => exact .tup l vs hl ih

/-- Cells against cells. -/
structure CR (U : Univ T) (ρ : Nat → Option Value) (M : Mem) (cs : List (SV T)) (vs : List Value) : Prop where
  len : cs.length = vs.length
  one : ∀ v ∈ vs, v.oneCell' = true
  at_ : ∀ i (h1 : i < cs.length) (h2 : i < vs.length), VR U ρ M cs[i] vs[i]

theorem CR.mono (hρ : LeR ρ ρ') (hM : LeM M M') {cs : List (SV T)} {vs : List Value} (h : CR U ρ M cs vs) : CR U ρ' M' cs vs :=
  ⟨h.len, h.one, fun i h1 h2 => (h.at_ i h1 h2).mono hρ hM⟩

theorem CR.agg {cs : List (SV T)} {vs : List Value} (h : CR U ρ M cs vs) : VR U ρ M (.agg cs) (.agg vs.toArray) := .agg cs vs h.len h.one h.at_

theorem CR.nil : CR U ρ M ([] : List (SV T)) [] := ⟨rfl, by simp, fun i h => by simp at h⟩

theorem CR.get {cs : List (SV T)} {vs : List Value} (h : CR U ρ M cs vs) {i : Nat} {s : SV T} (hs : cs[i]? = some s) : ∃ v, vs[i]? = some v ∧ v.oneCell' = true ∧ VR U ρ M s v := by
  have hi : i < cs.length := (List.getElem?_eq_some_iff.1 hs).1
  have hi2 : i < vs.length := h.len ▸ hi
  have e := (List.getElem?_eq_some_iff.1 hs).2
  exact ⟨vs[i], by simp [hi2], h.one _ (List.getElem_mem hi2), e ▸ h.at_ i hi hi2⟩

theorem CR.take {cs : List (SV T)} {vs : List Value} (h : CR U ρ M cs vs) (n : Nat) : CR U ρ M (cs.take n) (vs.take n) :=
  ⟨by simp [h.len], fun v hv => h.one v (List.mem_of_mem_take hv), fun i h1 h2 => by
    simp only [List.getElem_take]; exact h.at_ i (by simp at h1; omega) (by simp at h2; omega)⟩

theorem CR.drop {cs : List (SV T)} {vs : List Value} (h : CR U ρ M cs vs) (n : Nat) : CR U ρ M (cs.drop n) (vs.drop n) :=
  ⟨by simp [h.len], fun v hv => h.one v (List.mem_of_mem_drop hv), fun i h1 h2 => by
    simp only [List.getElem_drop]; exact h.at_ (n + i) (by simp at h1; omega) (by simp at h2; omega)⟩

theorem CR.append {cs cs' : List (SV T)} {vs vs' : List Value} (h : CR U ρ M cs vs) (k : CR U ρ M cs' vs') : CR U ρ M (cs ++ cs') (vs ++ vs') :=
  ⟨by simp [h.len, k.len], fun v hv => by
    rcases List.mem_append.1 hv with hv | hv
    · exact h.one v hv
    · exact k.one v hv, fun i h1 h2 => by
    have := h.len
    by_cases hi : i < cs.length
    · rw [List.getElem_append_left hi, List.getElem_append_left (by omega)]; exact h.at_ i hi (by omega)
    · rw [List.getElem_append_right (by omega), List.getElem_append_right (by omega)]
      have hl := k.at_ (i - cs.length) (by simp at h1; omega) (by simp at h2; omega)
      simpa only [← this] using hl⟩

theorem CR.cons {c : SV T} {v : Value} {cs : List (SV T)} {vs : List Value} (h : VR U ρ M c v) (h1 : v.oneCell' = true) (k : CR U ρ M cs vs) : CR U ρ M (c :: cs) (v :: vs) :=
  ⟨by simp [k.len], by simpa [h1] using k.one, fun i h2 h3 => by
    cases i with
    | zero => exact h
    | succ i => exact k.at_ i (by simp at h2; omega) (by simp at h3; omega)⟩

theorem CR.splice {cs us : List (SV T)} {vs xs : List Value} (h : CR U ρ M cs vs) (k : CR U ρ M us xs) (off : Nat) :
    CR U ρ M (cs.take off ++ (us ++ cs.drop (off + us.length))) (vs.take off ++ xs ++ vs.drop (off + xs.length)) := by
  rw [List.append_assoc, ← k.len]
  exact (h.take off).append (k.append (h.drop _))

/-- What a value's cells are. -/
theorem CR.one_ {s : SV T} {x : Value} (h : VR U ρ M s x) (h1 : x.oneCell' = true) : CR U ρ M [s] x.cells.toList := by
  have : x.cells.toList = [x] := by cases x <;> simp_all [Value.cells, Value.oneCell']
  rw [this]
  exact CR.cons h h1 .nil

theorem VR.cells? {s : SV T} {x : Value} {cs : List (SV T)} (h : VR U ρ M s x) (hc : s.cells? = some cs) : CR U ρ M cs x.cells.toList := by
  cases s with
  | any => simp [SV.cells?] at hc
  | tup l => simp [SV.cells?] at hc
  | agg l =>
    simp only [SV.cells?, Option.some.injEq] at hc
    subst hc
    cases h with
    | agg l vs hl hf h => exact ⟨by simpa [Value.cells] using hl, by simpa [Value.cells] using hf, by simpa [Value.cells] using h⟩
  | v y =>
    cases h
    cases x <;> simp only [SV.cells?, Option.some.injEq, reduceCtorEq] at hc <;> (subst hc; exact CR.one_ (.v _) rfl)
  | row t xs => simp only [SV.cells?, Option.some.injEq] at hc; subst hc; exact CR.one_ h (by cases h; rfl)
  | sub t xs => simp only [SV.cells?, Option.some.injEq] at hc; subst hc; exact CR.one_ h (by cases h; rfl)
  | own b => simp only [SV.cells?, Option.some.injEq] at hc; subst hc; exact CR.one_ h (by cases h; rfl)
  | ptr b o => simp only [SV.cells?, Option.some.injEq] at hc; subst hc; exact CR.one_ h (by cases h; rfl)
  | eptr b t i o => simp only [SV.cells?, Option.some.injEq] at hc; subst hc; exact CR.one_ h (by cases h; rfl)
  | rptr t xs i o => simp only [SV.cells?, Option.some.injEq] at hc; subst hc; exact CR.one_ h (by cases h; rfl)
  | hnd t j => simp only [SV.cells?, Option.some.injEq] at hc; subst hc; exact CR.one_ h (by cases h <;> rfl)
  | hptr j t i o => simp only [SV.cells?, Option.some.injEq] at hc; subst hc; exact CR.one_ h (by cases h; rfl)
end

/-! ### Memory -/
def Blk.live : Blk T → Bool
  | .cells _ _ => true
  | .arr _ _ => true
  | _ => false

def blockOf : Value → Option Nat
  | .slice (some a) _ _ => some a.block
  | .pointer (some a) => some a.block
  | _ => none

theorem blockOf_own {v : Value} {g : Nat} (h : v.ownBlock = some g) : blockOf v = some g := by
  unfold Value.ownBlock at h
  split at h
  · exact h
  · cases h

/-- Where a walk began, and which blocks it was lent. -/
structure Frm where
  w : World
  pin : List Value
  keep : Bool
  ow : Nat → Prop
def Frm.own (f : Frm) (g : Nat) : Prop := f.w.heap.size ≤ g ∨ (∃ v ∈ f.pin, blockOf v = some g) ∨ f.ow g
/-- No block. -/
def noO : Nat → Prop := fun _ => False
/-- What is not one's own stands as it stood. -/
structure Fr (f : Frm) (w : World) : Prop where
  os : w.os = f.w.os
  tape : w.tape = f.w.tape
  output : w.output = f.w.output
  size : f.w.heap.size ≤ w.heap.size
  block : ∀ k, ¬ f.own k → w.heap[k]? = f.w.heap[k]?
theorem Frm.own_up {f : Frm} {g : Nat} (h : f.w.heap.size ≤ g) : f.own g := .inl h
theorem Frm.lt {f : Frm} {g : Nat} (h : ¬ f.own g) : g < f.w.heap.size := Nat.lt_of_not_le fun k => h (.inl k)
theorem Fr.trans {f : Frm} {w w' : World} (h : Fr f w) (k : Below w.heap.size w w') : Fr f w' :=
  ⟨k.os.trans h.os, k.tape.trans h.tape, k.output.trans h.output, Nat.le_trans h.size k.size, fun b hb => (k.block b (Nat.lt_of_lt_of_le (Frm.lt hb) h.size)).trans (h.block b hb)⟩
theorem Fr.grown {f : Frm} {w w' : World} {row : Option Nat} (h : Fr f w) (hg : w.grownBy w' row) (hr : ∀ k, row = some k → f.own k) : Fr f w' :=
  ⟨hg.os.trans h.os, hg.tape.trans h.tape, hg.output.trans h.output, Nat.le_trans h.size hg.size, fun b hb => (hg.block b (Nat.lt_of_lt_of_le (Frm.lt hb) h.size) (fun e => hb (hr b e.symm))).trans (h.block b hb)⟩

/-- Nothing is known of a block. -/
def Free (M : Mem) (g : Nat) : Prop := (∀ o, M g o = none) ∧ ∀ B, M.bp = some B → B g = none
def SameAt (M M' : Mem) (g : Nat) : Prop := (∀ o, M' g o = M g o) ∧ ∀ B', M'.bp = some B' → ∃ B, M.bp = some B ∧ B' g = B g
theorem SameAt.refl (M : Mem) (g : Nat) : SameAt M M g := ⟨fun _ => rfl, fun B h => ⟨B, h, rfl⟩⟩
theorem Free.same {M M' : Mem} {g : Nat} (h : Free M g) (k : SameAt M M' g) : Free M' g := ⟨fun o => (k.1 o).trans (h.1 o), fun B hB => by
  obtain ⟨B0, h1, h2⟩ := k.2 B hB
  rw [h2]
  exact h.2 B0 h1⟩
/-- What the known blocks are. -/
def BpOk (U : Univ T) (w : World) (M : Mem) : Prop := ∀ B, M.bp = some B → ∃ e, U.em = some e ∧ ∀ g n c, B g = some (n, c) →
  ∃ cur, w.heap[g]? = some (.cells cur e (0, 0)) ∧ cur.size = c * U.sz e ∧ n ≤ c ∧ c ≤ maxLen ∧ ∀ o, n * U.sz e ≤ o → M g o = none
theorem BpOk.none_ {U : Univ T} {w : World} {M : Mem} (h : M.bp = none) : BpOk U w M := fun B hB => by rw [h] at hB; cases hB
theorem BpOk.heap {U : Univ T} {w w' : World} {M : Mem} (h : BpOk U w M) (k : ∀ B, M.bp = some B → ∀ g x, B g = some x → w'.heap[g]? = w.heap[g]?) : BpOk U w' M := fun B hB => by
  obtain ⟨e, he, h1⟩ := h B hB
  refine ⟨e, he, fun g n c hg => ?_⟩
  obtain ⟨cur, h1, h2⟩ := h1 g n c hg
  exact ⟨cur, (k B hB g _ hg).trans h1, h2⟩
theorem BpOk.lt {U : Univ T} {w : World} {M : Mem} (h : BpOk U w M) {B : Nat → Option (Nat × Nat)} (hB : M.bp = some B) {g : Nat} {x : Nat × Nat} (hg : B g = some x) : g < w.heap.size := by
  obtain ⟨e, he, h1⟩ := h B hB
  obtain ⟨cur, h1, _⟩ := h1 g x.1 x.2 hg
  exact (Array.getElem?_eq_some_iff.1 h1).1
theorem BpOk.below {U : Univ T} {w w' : World} {M : Mem} (h : BpOk U w M) (k : ∀ g, g < w.heap.size → w'.heap[g]? = w.heap[g]?) : BpOk U w' M :=
  h.heap fun B hB g x hg => k g (h.lt hB hg)

def BR (U : Univ T) (O : Nat → Prop) (ρ : Nat → Option Value) (M : Mem) (w : World) (v : Value) : Blk T → Prop
  | .dead => True
  | .mark _ => False
  | .cells t cs => ∃ g vs, v = .pointer (some ⟨g, 0, none⟩) ∧ O g ∧ w.heap[g]? = some (.cells vs t (0, 0)) ∧ CR U ρ M cs vs.toList ∧ Free M g
  | .arr t xs => ∃ cl, w.ownsRow 0 t (U.sz t) v xs.length cl ∧ CR U ρ M (xs.flatMap (U.enc t)) cl ∧ (∀ g, v.ownBlock = some g → Free M g) ∧ ∀ g, v.ownBlock = some g → O g
  | .frz t xs => (∃ a n c, v = .slice a n c) ∧ VR U ρ M (.row t xs) v

/-- One cell told as another. -/
def CellTo (U : Univ T) (x x' : SV T) : Prop := (∀ ρ M v, VR U ρ M x v → VR U ρ M x' v) ∧ ∀ t xs, x = .row t xs → x' = .row t xs
def CellsTo (U : Univ T) : List (SV T) → List (SV T) → Prop
  | [], [] => True
  | x :: l, x' :: l' => CellTo U x x' ∧ CellsTo U l l'
  | _, _ => False

structure UOk (U : Univ T) : Prop where
  len : ∀ t x, (U.enc t x).length = U.sz t
  nr : ∀ t x, (U.enc t x).all nr1 = true
  dcs : ∀ t cs e, U.dec t cs = some e → CellsTo U cs (U.enc t e)
  u8 : ∀ t f, U.u8 t = some f → ∀ x, U.enc t x = [.v (.int .u8 (f x))]

theorem CellsTo.cr {U : Univ T} {ρ : Nat → Option Value} {M : Mem} : ∀ {cs cs' : List (SV T)} {vs : List Value}, CellsTo U cs cs' → CR U ρ M cs vs → CR U ρ M cs' vs
  | [], [], _, _, h => h
  | x :: l, x' :: l', vs, k, h => by
    cases vs with
    | nil => have := h.len; simp at this
    | cons v vs =>
      exact .cons (k.1.1 _ _ _ (h.at_ 0 (by simp) (by simp))) (h.one v (by simp)) (CellsTo.cr k.2 ⟨by have := h.len; simpa using this, fun u hu => h.one u (by simp [hu]), fun i h1 h2 => h.at_ (i + 1) (by simp; omega) (by simp; omega)⟩)
  | [], _ :: _, _, k, _ => k.elim
  | _ :: _, [], _, k, _ => k.elim
theorem UOk.dec {U : Univ T} (hU : UOk U) (t : Nat) (cs : List (SV T)) (e : T t) (h : U.dec t cs = some e) (ρ : Nat → Option Value) (M : Mem) (vs : List Value) (k : CR U ρ M cs vs) : CR U ρ M (U.enc t e) vs := (hU.dcs t cs e h).cr k

structure MR (U : Univ T) (w0 : Frm) (M0 : Mem) (env : Nat → Blk T) (ρ : Nat → Option Value) (M : Mem) (w : World) : Prop where
  fr : Fr w0 w
  pin : ∀ i v, w0.pin[i]? = some v → ρ i = some v
  m0 : LeM M0 M
  mo : ∀ b o, ¬ w0.own b → M b o = M0 b o
  sub : ∀ b o v, M b o = some v → w.cell? ⟨b, o, none⟩ = some v
  blk : ∀ b, env b = .dead ∨ (∃ cs, env b = .mark cs) ∨ ∃ v, ρ b = some v ∧ BR U w0.own ρ M w v (env b)
  inj : ∀ b b' v v' g, (env b).live = true → (env b').live = true → ρ b = some v → ρ b' = some v' → blockOf v = some g → blockOf v' = some g → b = b'
  bpw : BpOk U w M
  bpo : ∀ B, M.bp = some B → ∀ g x, B g = some x → (∃ B0, M0.bp = some B0 ∧ B0 g = some x) ∨ w0.own g
  kp : w0.keep = true → M.bp.isSome = M0.bp.isSome
  mrk : ∀ cs, env MKB = .mark cs → w0.keep = false ∧ M.bp.isSome = true ∧ ∀ B0 g x, M0.bp = some B0 → B0 g = some x → False
  e0 : U.E = false → M.bp = none
  hpo : M.hp = M0.hp

/-- What a step does to the known blocks. -/
structure BpS (U : Univ T) (w0 : Frm) (M M' : Mem) (w' : World) : Prop where
  w : BpOk U w' M'
  o : ∀ B', M'.bp = some B' → ∀ g x, B' g = some x → (∃ B, M.bp = some B ∧ B g = some x) ∨ w0.own g
  k : M'.bp.isSome = M.bp.isSome
  h : M'.hp = M.hp

section
variable {U : Univ T} {w0 : Frm} {w w' : World} {M0 M M' : Mem} {env env' : Nat → Blk T} {ρ ρ' : Nat → Option Value}

theorem BR.mono {O : Nat → Prop} {v : Value} {k : Blk T} (hρ : LeR ρ ρ') (hM : LeM M M') (h : BR U O ρ M w v k)
    (hb : k.live = true → ∀ g, blockOf v = some g → w'.heap[g]? = w.heap[g]? ∧ SameAt M M' g) : BR U O ρ' M' w' v k := by
  cases k with
  | dead => trivial
  | mark cs => exact h
  | cells t cs =>
    obtain ⟨g, vs, rfl, hg, hh, hc, hm⟩ := h
    obtain ⟨e1, e2⟩ := hb rfl g rfl
    exact ⟨g, vs, rfl, hg, e1.trans hh, hc.mono hρ hM, hm.same e2⟩
  | arr t xs =>
    obtain ⟨cl, ho, hc, hm, hO⟩ := h
    have ho' := ho
    refine ⟨cl, ⟨ho.1, ?_⟩, hc.mono hρ hM, ?_, hO⟩
    · rcases ho.2 with h0 | ⟨g, cap, cur, rfl, hb1, hh, rest⟩
      · exact .inl h0
      · exact .inr ⟨g, cap, cur, rfl, hb1, (hb rfl g rfl).1.trans hh, rest⟩
    · intro g hg
      have : blockOf v = some g := blockOf_own hg
      exact (hm g hg).same (hb rfl g this).2
  | frz t xs => exact ⟨h.1, h.2.mono hρ hM⟩

/-- A change of the memory: what has not been touched stays as it was. -/
theorem MR.step (tch : Nat → Prop) (h : MR U w0 M0 env ρ M w) (hfr : Fr w0 w') (hρ : LeR ρ ρ') (hM : LeM M M') (hbp : BpS U w0 M M' w') (hmo : ∀ b o, ¬ w0.own b → M' b o = M b o)
    (hsub : ∀ b o v, M' b o = some v → w'.cell? ⟨b, o, none⟩ = some v)
    (hold : ∀ b, ¬ tch b → env' b = env b ∧ ∀ v g, (env b).live = true → ρ b = some v → blockOf v = some g → w'.heap[g]? = w.heap[g]? ∧ SameAt M M' g)
    (hnew : ∀ b, tch b → env' b = .dead ∨ ∃ v, ρ' b = some v ∧ BR U w0.own ρ' M' w' v (env' b))
    (hinj : ∀ b b' v v' g, (env' b).live = true → (env' b').live = true → ρ' b = some v → ρ' b' = some v' → blockOf v = some g → blockOf v' = some g → b = b') :
    MR U w0 M0 env' ρ' M' w' where
  fr := hfr
  pin := fun i v hi => hρ _ _ (h.pin i v hi)
  m0 := h.m0.trans hM
  mo := fun b o hb => (hmo b o hb).trans (h.mo b o hb)
  sub := hsub
  blk := fun b => by
    by_cases ht : tch b
    · exact (hnew b ht).imp id .inr
    · obtain ⟨e, hb⟩ := hold b ht
      rcases h.blk b with d | d | ⟨v, hv, hB⟩
      · exact .inl (e.trans d)
      · exact .inr (.inl (d.imp fun _ d => e.trans d))
      · refine .inr (.inr ⟨v, hρ _ _ hv, ?_⟩)
        rw [e]
        exact hB.mono hρ hM fun hl g hg => hb v g hl hv hg
  inj := hinj
  bpw := hbp.w
  bpo := fun B hB g x hx => by
    rcases hbp.o B hB g x hx with ⟨B1, h1, h2⟩ | ho
    · exact h.bpo B1 h1 g x h2
    · exact .inr ho
  kp := fun hk => hbp.k.trans (h.kp hk)
  mrk := fun cs hm => by
    by_cases ht : tch MKB
    · rcases hnew MKB ht with d | ⟨v, _, hB⟩
      · rw [hm] at d; cases d
      · rw [hm] at hB; exact hB.elim
    · have := (hold MKB ht).1
      rw [hm] at this
      obtain ⟨k1, k2, k3⟩ := h.mrk cs this.symm
      exact ⟨k1, hbp.k.trans k2, k3⟩
  e0 := fun he => by
    have h1 := h.e0 he
    have h2 := hbp.k
    rw [h1] at h2
    cases hb : M'.bp with
    | none => rfl
    | some B => rw [hb] at h2; cases h2
  hpo := hbp.h.trans h.hpo

theorem MR.same (h : MR U w0 M0 env ρ M w) (k : ∀ B, M.bp = some B → ∀ g x, B g = some x → w'.heap[g]? = w.heap[g]?) : BpS U w0 M M w' :=
  ⟨h.bpw.heap k, fun B hB g x hx => .inl ⟨B, hB, hx⟩, rfl, rfl⟩
theorem MR.same_lt (h : MR U w0 M0 env ρ M w) (k : ∀ g, g < w.heap.size → w'.heap[g]? = w.heap[g]?) : BpS U w0 M M w' :=
  h.same fun B hB g x hg => k g (h.bpw.lt hB hg)
theorem MR.fresh (h : MR U w0 M0 env ρ M w) {g : Nat} (hg : w.heap.size ≤ g) : Free M g := by
  refine ⟨fun o => ?_, fun B hB => ?_⟩
  · cases hm : M g o with
    | none => rfl
    | some v =>
      have := World.block_lt_of_cell? w _ (h.sub _ _ _ hm)
      simp only at this
      omega
  · cases hx : B g with
    | none => rfl
    | some x =>
      have := h.bpw.lt hB hx
      omega

theorem MR.drew (h : MR U w0 M0 env ρ M w) (n : Nat) : MR U w0 M0 env ρ M { w with drawn := n } :=
  h.step (fun _ => False) ⟨h.fr.os, h.fr.tape, h.fr.output, h.fr.size, h.fr.block⟩ (.refl _) (.refl _) (h.same fun _ _ _ _ _ => rfl) (fun _ _ _ => rfl) (fun b o v hv => h.sub b o v hv) (fun _ _ => ⟨rfl, fun _ _ _ _ _ => ⟨rfl, .refl _ _⟩⟩) (fun _ h => h.elim) h.inj
end
end Go.Sx
