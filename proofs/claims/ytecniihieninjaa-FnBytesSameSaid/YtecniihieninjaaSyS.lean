/- An evaluator of the model's code over symbolic values, and its soundness: part 24. No condition. -/
import Derived.Test.YtecniihieninjaaSyR
set_option linter.unusedVariables false
set_option linter.unusedSimpArgs false
namespace Go.Sx
open Go.RowKit
variable {T : Nat → Type} {U : Univ T} {P : Program}

theorem cell_to {x y : SV T} (h : x = y) : CellTo U x y := h ▸ ⟨fun _ _ _ h => h, fun _ _ h => h⟩
def rowOf (e : Nat) : SV T → Option (List (T e))
  | .row t xs => if h : t = e then some (h ▸ xs) else none
  | .v (.slice none 0 0) => some []
  | _ => none

theorem rowOf_vr {e : Nat} {x : SV T} {xs : List (T e)} (h : rowOf e x = some xs) {ρ : Nat → Option Value} {M : Mem} (v : Value) (hv : VR U ρ M x v) : VR U ρ M (.row e xs) v := by
  unfold rowOf at h
  split at h
  · rename_i t ys
    split at h
    · rename_i ht
      subst ht
      cases h
      exact hv
    · cases h
  · cases h
    cases hv
    exact .row _ [] none 0 (fun _ _ => undef) (Nat.le_refl _) (fun _ => ⟨rfl, rfl⟩) (fun a ha => by cases ha) (fun a ha => by cases ha) (fun i hi => by simp at hi) (fun i hi => by simp at hi) (fun _ _ _ a ha => by cases ha)
  · cases h

theorem rowOf_to {e : Nat} {x : SV T} {xs : List (T e)} (h : rowOf e x = some xs) : CellTo U x (.row e xs) := by
  refine ⟨fun ρ M v => rowOf_vr h v, fun t ys hx => ?_⟩
  subst hx
  unfold rowOf at h
  simp only at h
  split at h
  · rename_i ht
    subst ht
    cases h
    rfl
  · cases h
theorem CR.c {ρ : Nat → Option Value} {M : Mem} {x x' : SV T} {cs cs' : List (SV T)} (hx : ∀ v, VR U ρ M x v → VR U ρ M x' v) (k : ∀ vs, CR U ρ M cs vs → CR U ρ M cs' vs) (vs : List Value) (h : CR U ρ M (x :: cs) vs) : CR U ρ M (x' :: cs') vs := by
  cases vs with
  | nil => have := h.len; simp at this
  | cons v vs =>
    exact .cons (hx v (h.at_ 0 (by simp) (by simp))) (h.one v (by simp)) (k vs ⟨by have := h.len; simpa using this, fun u hu => h.one u (by simp [hu]), fun i h1 h2 => h.at_ (i + 1) (by simp; omega) (by simp; omega)⟩)

def w64 (x : Int) : Int := IntKind.wrap .i64 x
/-- A table of calls. -/
def tbl : List (Nat × CallE T) → Calls_ T
  | [], _ => none
  | (n, f) :: r, m => match Nat.beq n m with
    | true => some f
    | false => tbl r m

def TblOk (P : Program) (U : Univ T) : List (Nat × CallE T) → Prop
  | [] => True
  | (n, f) :: r => SndE P U n f ∧ TblOk P U r

theorem tbl_ok : ∀ {l : List (Nat × CallE T)}, TblOk P U l → ∀ n f, tbl l n = some f → SndE P U n f
  | [], _, n, f, h => by cases h
  | (m, g) :: r, hk, n, f, h => by
    simp only [tbl] at h
    split at h
    · rename_i hb
      cases h
      have := beq_eq hb
      subst this
      exact hk.1
    · exact tbl_ok hk.2 n f h

/-- What is still to do at a region. -/
def fnd (r : Nat) : Code → List Item → List Item
  | .region id ops d, k => match Nat.beq id r with
    | true => .code (.region id ops d) :: k
    | false => []
  | .seq a b, k => match fnd r a (.code b :: k) with
    | [] => fnd r b k
    | l => l
  | .cond _ a b, k => match fnd r a k with
    | [] => fnd r b k
    | l => l
  | .block id c, k => fnd r c (.inBlock id :: k)
  | .loop c, k => fnd r c (.inLoop c :: k)
  | _, _ => []

def bodyOf (f : Func) : Code := match f.body with
  | some c => c
  | none => .skip

def annOf : List (Nat × List Nat) → Nat → Option (List Nat)
  | [], _ => none
  | (n, l) :: r, m => match Nat.beq n m with
    | true => some l
    | false => annOf r m

/-! ### Values that are asked for and answered -/
/-- A kind of value: how it is read off a symbolic value, and written. -/
structure Dc (U : Univ T) (A : Type) where
  de : SV T → Option A
  en : A → SV T
  ok : ∀ x a, de x = some a → ∀ ρ M v, VR U ρ M x v → VR U ρ M (en a) v

def deI (k : IntKind) : SV T → Option Int
  | .v (.int k' a) => match decide (k' = k) with
    | true => some a
    | false => none
  | _ => none
def deB : SV T → Option Bool
  | .v (.bool a) => some a
  | _ => none
def deS : SV T → Option ByteArray
  | .v (.string a) => some a
  | _ => none
def deF (n : Nat) : SV T → Option Unit
  | .v (.func (.func m) ⟨[]⟩ ⟨[]⟩) => match Nat.beq m n with
    | true => some ()
    | false => none
  | _ => none
def deA (U : Univ T) (t : Nat) : SV T → Option (T t)
  | .agg cs => U.dec t cs
  | _ => none

theorem deI_eq {k : IntKind} {x : SV T} {a : Int} (h : deI k x = some a) : x = .v (.int k a) := by
  unfold deI at h
  split at h
  · split at h
    · rename_i hd
      have := of_decide_eq_true hd
      subst this
      cases h
      rfl
    · cases h
  · cases h
theorem deB_eq {x : SV T} {a : Bool} (h : deB x = some a) : x = .v (.bool a) := by
  unfold deB at h
  split at h
  · cases h; rfl
  · cases h
theorem deS_eq {x : SV T} {a : ByteArray} (h : deS x = some a) : x = .v (.string a) := by
  unfold deS at h
  split at h
  · cases h; rfl
  · cases h
theorem deF_eq {n : Nat} {x : SV T} {a : Unit} (h : deF n x = some a) : x = .v (.func (.func n) ⟨[]⟩ ⟨[]⟩) := by
  unfold deF at h
  split at h
  · split at h
    · rename_i hd
      have := beq_eq hd
      subst this
      rfl
    · cases h
  · cases h
theorem vr_agg {ρ : Nat → Option Value} {M : Mem} {cs cs' : List (SV T)} (hc : ∀ vs, CR U ρ M cs vs → CR U ρ M cs' vs) (v : Value) (hv : VR U ρ M (.agg cs) v) : VR U ρ M (.agg cs') v := by
  cases hv with
  | agg l vs hl hf h =>
    have := hc vs ⟨hl, hf, h⟩
    exact .agg _ _ this.len this.one this.at_

def Dc.int (U : Univ T) (k : IntKind) : Dc U Int := ⟨deI k, fun a => .v (.int k a), fun x a h ρ M v hv => by rw [deI_eq h] at hv; exact hv⟩
def Dc.bool (U : Univ T) : Dc U Bool := ⟨deB, fun a => .v (.bool a), fun x a h ρ M v hv => by rw [deB_eq h] at hv; exact hv⟩
def Dc.str (U : Univ T) : Dc U ByteArray := ⟨deS, fun a => .v (.string a), fun x a h ρ M v hv => by rw [deS_eq h] at hv; exact hv⟩
def Dc.fn (U : Univ T) (n : Nat) : Dc U Unit := ⟨deF n, fun _ => .v (.func (.func n) ⟨[]⟩ ⟨[]⟩), fun x a h ρ M v hv => by rw [deF_eq h] at hv; exact hv⟩
def Dc.row (U : Univ T) (e : Nat) : Dc U (List (T e)) := ⟨rowOf e, fun a => .row e a, fun x a h ρ M v hv => rowOf_vr h v hv⟩
def Dc.agg (hU : UOk U) (t : Nat) : Dc U (T t) := ⟨deA U t, fun a => .agg (U.enc t a), fun x a h ρ M v hv => by
  unfold deA at h
  split at h
  · exact vr_agg (fun vs => hU.dec t _ _ h ρ M vs) v hv
  · cases h⟩

structure Dl (U : Univ T) (A : Type) where
  de : List (SV T) → Option A
  en : A → List (SV T)
  ok : ∀ x a, de x = some a → ∀ ρ M vs, VRs U ρ M x vs → VRs U ρ M (en a) vs

def deN : List (SV T) → Option Unit
  | [] => some ()
  | _ => none
def de1 {A : Type} (d : SV T → Option A) : List (SV T) → Option A
  | [x] => d x
  | _ => none
def deC {A B : Type} (d : SV T → Option A) (e : List (SV T) → Option B) : List (SV T) → Option (A × B)
  | x :: l => match d x, e l with
    | some a, some b => some (a, b)
    | _, _ => none
  | _ => none
theorem VRs.head {ρ : Nat → Option Value} {M : Mem} {x : SV T} {l : List (SV T)} {vs : List Value} (h : VRs U ρ M (x :: l) vs) : ∃ v ws, vs = v :: ws ∧ VR U ρ M x v ∧ VRs U ρ M l ws := by
  cases vs with
  | nil => have := h.1; simp at this
  | cons v ws => exact ⟨v, ws, rfl, h.2 0 (by simp) (by simp), by have := h.1; simpa using this, fun i h1 h2 => h.2 (i + 1) (by simp; omega) (by simp; omega)⟩
def Dl.nil (U : Univ T) : Dl U Unit := ⟨deN, fun _ => [], fun x a h ρ M vs hv => by
  unfold deN at h
  split at h
  · exact hv
  · cases h⟩
def Dl.one {A : Type} (d : Dc U A) : Dl U A := ⟨de1 d.de, fun a => [d.en a], fun x a h ρ M vs hv => by
  unfold de1 at h
  split at h
  · obtain ⟨v, ws, rfl, hx, hl⟩ := hv.head
    exact VRs.cons (d.ok _ _ h ρ M v hx) hl
  · cases h⟩
def Dl.cons {A B : Type} (d : Dc U A) (e : Dl U B) : Dl U (A × B) := ⟨deC d.de e.de, fun a => d.en a.1 :: e.en a.2, fun x a h ρ M vs hv => by
  unfold deC at h
  split at h
  · split at h
    · rename_i h1 h2
      cases h
      obtain ⟨v, ws, rfl, hx, hl⟩ := hv.head
      exact VRs.cons (d.ok _ _ h1 ρ M v hx) (e.ok _ _ h2 ρ M ws hl)
    · cases h
  · cases h⟩
/-- Several results. -/
def deT {A : Type} (d : List (SV T) → Option A) : SV T → Option A
  | .tup l => d l
  | _ => none
def Dc.tup {A : Type} (d : Dl U A) : Dc U A := ⟨deT d.de, fun a => .tup (d.en a), fun x a h ρ M v hv => by
  unfold deT at h
  split at h
  · cases hv with
    | tup l vs hl k =>
      have := d.ok _ _ h ρ M vs ⟨hl, k⟩
      exact .tup _ _ this.1 this.2
  · cases h⟩

/-- A function's contract: what it computes. -/
def W {A R : Type} (d : Dl U A) (f : A → Option R) (e : Dc U R) (l : List (SV T)) : Option (CallRes T) := match d.de l with
  | some a => some ⟨R, f a, fun r => (e.en r, [])⟩
  | none => none
def finD {R : Type} (e : Dc U R) (p : SV T) (q : List (Blk T)) : Option R := match q with
  | [] => e.de p
  | _ => none

/-- A function's contract, out of its evaluation. -/
theorem snd_fn {A R : Type} {F : Fn T R} {d : Dl F.U A} {f : A → Option R} {e : Dc F.U R} (hF : FnOk0 F) (hz : F.frz = true) (hnl : F.nl = 0) {n : Nat} {fn : Func} {body : Code} (hfn : F.P.funcs[n]? = some fn) (hname : (fn.name == "runtime.NumGoroutine") = false) (hb : fn.body = some body)
    (hnt : fn.ntmps = F.nt) (hres : fn.results.toList = F.res) (hfin : F.fin = finD e) (hl : ∀ a, (d.en a).length ≤ F.nt)
    (h : ∀ a r, f a = some r → ∃ (i j : Nat), ev F (evJ F i j) i [.code body] (st0 (d.en a)) = some r) : Snd F.P F.U n (W d f e) := by
  refine snd_of hF hz hnl hfn hname hb hnt hres ?_
  intro l c x hl' hx
  unfold W at hl'
  split at hl'
  · rename_i a ha
    cases hl'
    obtain ⟨i, j, hev⟩ := h a x hx
    refine ⟨d.en a, d.ok _ _ ha, hl a, i, j, x, hev, ?_⟩
    intro p q hpq
    rw [hfin] at hpq
    unfold finD at hpq
    split at hpq
    · exact ⟨rfl, e.ok _ _ hpq⟩
    · cases hpq
  · cases hl'

/-- A block's contents: how they are read, and written. -/
structure Db (U : Univ T) (B : Type) where
  de : Blk T → Option B
  en : B → Blk T
  ok : ∀ k b, de k = some b → BlkTo U k (en b)
  okb : ∀ b, okB (en b) = true
def deC46 (U : Univ T) (t : Nat) : Blk T → Option (T t)
  | .cells t' cs => match Nat.beq t' t with
    | true => U.dec t cs
    | false => none
  | _ => none
def deR (t : Nat) : Blk T → Option (List (T t))
  | .arr t' xs => if h : t' = t then some (h ▸ xs) else none
  | _ => none
def Db.cells (hU : UOk U) (t : Nat) : Db U (T t) := ⟨deC46 U t, fun y => .cells t (U.enc t y), fun k b h => by
  unfold deC46 at h
  split at h
  · split at h
    · rename_i t' cs hb
      have := beq_eq hb
      subst this
      refine ⟨fun O ρ M w u hB => ?_, fun _ => hU.nr _ _⟩
      obtain ⟨g, vs, e, h1, h2, h3, h4⟩ := hB
      exact ⟨g, vs, e, h1, h2, hU.dec _ _ _ h _ _ _ h3, h4⟩
    · cases h
  · (cases h), fun b => hU.nr _ _⟩
def Db.arr (U : Univ T) (t : Nat) : Db U (List (T t)) := ⟨deR t, fun xs => .arr t xs, fun k b h => by
  unfold deR at h
  split at h
  · split at h
    · rename_i ht
      subst ht
      cases h
      exact ⟨fun _ _ _ _ _ h => h, id⟩
    · cases h
  · (cases h), fun _ => rfl⟩

/-- The contract of a function that is lent a block: what it computes of the contents and the other arguments. -/
def WL {A B R : Type} (b : Db U B) (d : Dl U A) (f : B × A → Option (R × B)) (e : Dc U R) (k : Blk T) (l : List (SV T)) : Option (CallRes T) := match b.de k, d.de l with
  | some y, some a => some ⟨R × B, f (y, a), fun r => (e.en r.1, [b.en r.2])⟩
  | _, _ => none
def finL {B R : Type} (e : Dc U R) (b : Db U B) (p : SV T) (q : List (Blk T)) : Option (R × B) := match q with
  | [k] => match e.de p, b.de k with
    | some r, some y => some (r, y)
    | _, _ => none
  | _ => none
def st1 (sh : Bool) (k : Blk T) (l : List (SV T)) : St T := ⟨initS (lentArg sh k :: l) 0, [(0, k)], 1⟩
theorem sndL_fn {A B R : Type} {F : Fn T (R × B)} {b : Db F.U B} {d : Dl F.U A} {f : B × A → Option (R × B)} {e : Dc F.U R} {sh : Bool} (hF : FnOk0 F) (hz : F.frz = true) (hnl : F.nl = 1) (hsh : ∀ y, shOk sh (b.en y)) {n : Nat} {fn : Func} {body : Code} (hfn : F.P.funcs[n]? = some fn) (hname : (fn.name == "runtime.NumGoroutine") = false) (hb : fn.body = some body)
    (hnt : fn.ntmps = F.nt) (hres : fn.results.toList = F.res) (hfin : F.fin = finL e b) (hl : ∀ a, (d.en a).length + 1 ≤ F.nt)
    (h : ∀ y a r, f (y, a) = some r → ∃ (i j : Nat), ev F (evJ F i j) i [.code body] (st1 sh (b.en y) (d.en a)) = some r) : SndL F.P F.U n sh (WL b d f e) := by
  refine sndL_of hF hz hnl hfn hname hb hnt hres ?_
  intro k l c x hl' hx
  unfold WL at hl'
  split at hl'
  · rename_i y a hy ha
    cases hl'
    obtain ⟨i, j, hev⟩ := h y a x hx
    refine ⟨b.en y, d.en a, b.ok _ _ hy, hsh y, d.ok _ _ ha, hl a, i, j, x, hev, ?_⟩
    intro p k' hpq
    rw [hfin] at hpq
    unfold finL at hpq
    simp only at hpq
    split at hpq
    · rename_i r y' hr hy'
      cases hpq
      exact ⟨_, rfl, b.ok _ _ hy', e.ok _ _ hr⟩
    · cases hpq
  · cases hl'

/-- The rounds of a function: one step over its places, again and again. -/
def run {J R : Type} (step : (J → Option R) → J → Option R) (k : Nat) : J → Option R := Nat.rec (fun _ => none) (fun _ ih => step ih) k
theorem evJ_run {J R : Type} {F : Fn T R} {n : Nat} (td : J → List Item) (emb : J → St T) (step : (J → Option R) → J → Option R)
    (h : ∀ G p, evFrom F G n (td p) (emb p) = step (fun q => G (td q) (emb q)) p) : ∀ j p, evJ F n j (td p) (emb p) = run step j p
  | 0, p => rfl
  | j + 1, p => by
    show evFrom F (evJ F n j) n (td p) (emb p) = step (run step j) p
    rw [h, show (fun q => evJ F n j (td q) (emb q)) = run step j from funext fun q => evJ_run td emb step h j q]

/-- Several answers, some of them blocks of one's own: from name n on. -/
structure Dk (U : Univ T) (A : Type) where
  de : Nat → List (SV T) → List (Blk T) → Option A
  en : Nat → A → List (SV T) × List (Blk T)
  ok : ∀ n l q a, de n l q = some a → BlksTo U q (en n a).2 ∧ ∀ ρ M vs, VRs U ρ M l vs → VRs U ρ M (en n a).1 vs
  okb : ∀ n a, ∀ k ∈ (en n a).2, okB k = true
def deKn : Nat → List (SV T) → List (Blk T) → Option Unit
  | _, [], [] => some ()
  | _, _, _ => none
def Dk.nil (U : Univ T) : Dk U Unit := ⟨deKn, fun _ _ => ([], []), fun n l q a h => by
  unfold deKn at h
  split at h
  · exact ⟨trivial, fun _ _ _ h => h⟩
  · (cases h), fun _ _ _ h => by simp at h⟩
def deKs {A B : Type} (d : SV T → Option A) (e : Nat → List (SV T) → List (Blk T) → Option B) (n : Nat) : List (SV T) → List (Blk T) → Option (A × B)
  | x :: l, q => match d x, e n l q with
    | some a, some b => some (a, b)
    | _, _ => none
  | _, _ => none
def Dk.val {A B : Type} (d : Dc U A) (e : Dk U B) : Dk U (A × B) := ⟨deKs d.de e.de, fun n a => (d.en a.1 :: (e.en n a.2).1, (e.en n a.2).2), fun n l q a h => by
  unfold deKs at h
  split at h
  · split at h
    · rename_i h1 h2
      cases h
      obtain ⟨k1, k2⟩ := e.ok _ _ _ _ h2
      refine ⟨k1, fun ρ M vs hv => ?_⟩
      obtain ⟨v, ws, rfl, hx, hl⟩ := hv.head
      exact VRs.cons (d.ok _ _ h1 ρ M v hx) (k2 ρ M ws hl)
    · cases h
  · (cases h), fun n a => e.okb n a.2⟩
def deKo {B : Type} (t : Nat) (e : Nat → List (SV T) → List (Blk T) → Option B) (n : Nat) : List (SV T) → List (Blk T) → Option (List (T t) × B)
  | .own i :: l, k :: q => match Nat.beq i n, deR t k, e (n + 1) l q with
    | true, some a, some b => some (a, b)
    | _, _, _ => none
  | _, _ => none
theorem deR_eq {t : Nat} {k : Blk T} {xs : List (T t)} (h : deR t k = some xs) : k = .arr t xs := by
  unfold deR at h
  split at h
  · split at h
    · rename_i ht
      subst ht
      cases h
      rfl
    · cases h
  · cases h
def Dk.own {B : Type} (t : Nat) (e : Dk U B) : Dk U (List (T t) × B) := ⟨deKo t e.de, fun n a => (.own n :: (e.en (n + 1) a.2).1, .arr t a.1 :: (e.en (n + 1) a.2).2), fun n l q a h => by
  unfold deKo at h
  split at h
  · split at h
    · rename_i h0 h1 h2
      cases h
      have := beq_eq h0
      subst this
      obtain ⟨k1, k2⟩ := e.ok _ _ _ _ h2
      refine ⟨by rw [deR_eq h1]; exact ⟨BlkTo.refl _ _, k1⟩, fun ρ M vs hv => ?_⟩
      obtain ⟨v, ws, rfl, hx, hl⟩ := hv.head
      exact VRs.cons hx (k2 ρ M ws hl)
    · cases h
  · (cases h), fun n a k hk => by
  rcases List.mem_cons.1 hk with rfl | hk
  · rfl
  · exact e.okb _ _ k hk⟩
/-- A pointer to a struct of one's own. -/
def deKp {A B : Type} (d : Blk T → Option A) (e : Nat → List (SV T) → List (Blk T) → Option B) (n : Nat) : List (SV T) → List (Blk T) → Option (A × B)
  | .ptr i 0 :: l, k :: q => match Nat.beq i n, d k, e (n + 1) l q with
    | true, some a, some b => some (a, b)
    | _, _, _ => none
  | _, _ => none
def Dk.cel {A B : Type} (d : Db U A) (e : Dk U B) : Dk U (A × B) := ⟨deKp d.de e.de, fun n a => (.ptr n 0 :: (e.en (n + 1) a.2).1, d.en a.1 :: (e.en (n + 1) a.2).2), fun n l q a h => by
  unfold deKp at h
  split at h
  · split at h
    · rename_i h0 h1 h2
      cases h
      have := beq_eq h0
      subst this
      obtain ⟨k1, k2⟩ := e.ok _ _ _ _ h2
      refine ⟨⟨d.ok _ _ h1, k1⟩, fun ρ M vs hv => ?_⟩
      obtain ⟨v, ws, rfl, hx, hl⟩ := hv.head
      exact VRs.cons hx (k2 ρ M ws hl)
    · cases h
  · (cases h), fun n a k hk => by
  rcases List.mem_cons.1 hk with rfl | hk
  · exact d.okb _
  · exact e.okb _ _ k hk⟩

/-- A struct whose slices are one's own. -/
def agoE : Nat → List (SV T) → List (SV T) × List (Blk T)
  | _, [] => ([], [])
  | n, x :: r => match x with
    | .row t xs => (.own n :: (agoE (n + 1) r).1, .arr t xs :: (agoE (n + 1) r).2)
    | x => (x :: (agoE n r).1, (agoE n r).2)
def agoD : Nat → List (SV T) → List (Blk T) → Option (List (SV T) × Nat × List (Blk T))
  | n, [], q => some ([], n, q)
  | n, x :: r, q => match x with
    | .own i => match q with
      | .arr t xs :: q => match Nat.beq i n, agoD (n + 1) r q with
        | true, some (l, m, q) => some (.row t xs :: l, m, q)
        | _, _ => none
      | _ => none
    | .row _ _ => none
    | x => match agoD n r q with
      | some (l, m, q) => some (x :: l, m, q)
      | none => none
def isRow : SV T → Bool
  | .row _ _ => true
  | _ => false
def sameRows : List (SV T) → List (SV T) → Bool
  | x :: l, y :: l' => (isRow x == isRow y) && sameRows l l'
  | [], [] => true
  | _, _ => false
theorem CR.tl {ρ : Nat → Option Value} {M : Mem} {x : SV T} {l : List (SV T)} {v : Value} {vs : List Value} (hv : CR U ρ M (x :: l) (v :: vs)) : CR U ρ M l vs :=
  ⟨by have := hv.len; simpa using this, fun u hu => hv.one u (by simp [hu]), fun i h1 h2 => hv.at_ (i + 1) (by simp; omega) (by simp; omega)⟩
theorem ago_ok : ∀ {cs : List (SV T)} {n : Nat} {q : List (Blk T)} {cs2 cs' : List (SV T)} {m : Nat} {q2 : List (Blk T)}, agoD n cs q = some (cs2, m, q2) → CellsTo U cs2 cs' → sameRows cs2 cs' = true →
    ∃ k, q = k ++ q2 ∧ m = n + (agoE n cs').2.length ∧ BlksTo U k (agoE n cs').2 ∧ ∀ ρ M vs, CR U ρ M cs vs → CR U ρ M (agoE n cs').1 vs
  | [], n, q, cs2, cs', m, q2, h, h1, h2 => by
    simp only [agoD, Option.some.injEq, Prod.mk.injEq] at h
    obtain ⟨rfl, rfl, rfl⟩ := h
    cases cs' with
    | cons y l => exact h1.elim
    | nil => exact ⟨[], rfl, rfl, trivial, fun _ _ _ h => h⟩
  | x :: r, n, q, cs2, cs', m, q2, h, h1, h2 => by
    unfold agoD at h
    split at h
    · rename_i i
      split at h
      · rename_i t xs q
        split at h
        · rename_i l m' q' hb hr
          have := beq_eq hb
          subst this
          simp only [Option.some.injEq, Prod.mk.injEq] at h
          obtain ⟨rfl, rfl, rfl⟩ := h
          cases cs' with
          | nil => exact h1.elim
          | cons y l' =>
            obtain rfl : y = .row t xs := h1.1.2 t xs rfl
            have h3 : sameRows l l' = true := by
              simp only [sameRows, Bool.and_eq_true] at h2
              exact h2.2
            obtain ⟨k, e1, e2, e3, e4⟩ := ago_ok hr h1.2 h3
            refine ⟨.arr t xs :: k, by rw [e1]; rfl, by rw [e2]; simp only [agoE, List.length_cons]; omega, ⟨BlkTo.refl _ _, e3⟩, fun ρ M vs hv => ?_⟩
            cases vs with
            | nil => have := hv.len; simp at this
            | cons v vs => exact .cons (hv.at_ 0 (by simp) (by simp)) (hv.one v (by simp)) (e4 _ _ vs hv.tl)
        · cases h
      · cases h
    · cases h
    · rename_i hno1 hno2
      split at h
      · rename_i l m' q' hr
        simp only [Option.some.injEq, Prod.mk.injEq] at h
        obtain ⟨rfl, rfl, rfl⟩ := h
        cases cs' with
        | nil => exact h1.elim
        | cons y l' =>
          have h3 : (isRow x == isRow y) = true ∧ sameRows l l' = true := by
            simpa only [sameRows, Bool.and_eq_true] using h2
          obtain ⟨k, e1, e2, e3, e4⟩ := ago_ok hr h1.2 h3.2
          have hx : isRow x = false := by
            cases x <;> first | rfl | (rename_i t xs; exact absurd rfl (hno2 t xs))
          have hy : isRow y = false := by have := h3.1; rw [hx] at this; simpa using this
          have e0 : agoE n (y :: l') = (y :: (agoE n l').1, (agoE n l').2) := by
            cases y <;> first | rfl | (cases hy)
          rw [e0]
          refine ⟨k, e1, e2, e3, fun ρ M vs hv => ?_⟩
          cases vs with
          | nil => have := hv.len; simp at this
          | cons v vs => exact .cons (h1.1.1 _ _ _ (hv.at_ 0 (by simp) (by simp))) (hv.one v (by simp)) (e4 _ _ vs hv.tl)
      · cases h
theorem agoE_okb : ∀ (n : Nat) (cs : List (SV T)), ∀ k ∈ (agoE n cs).2, okB k = true
  | n, [], k, h => by simp [agoE] at h
  | n, x :: r, k, h => by
    unfold agoE at h
    split at h
    · rcases List.mem_cons.1 h with rfl | h
      · rfl
      · exact agoE_okb _ r k h
    · exact agoE_okb _ r k h
def deKa {A B : Type} (dec : List (SV T) → Option A) (enc : A → List (SV T)) (e : Nat → List (SV T) → List (Blk T) → Option B) (n : Nat) : List (SV T) → List (Blk T) → Option (A × B)
  | .agg cs :: l, q => match agoD n cs q with
    | some (cs2, m, q2) => match dec cs2 with
      | some a => match sameRows cs2 (enc a), e m l q2 with
        | true, some b => some (a, b)
        | _, _ => none
      | none => none
    | none => none
  | _, _ => none
def Dk.ago {B : Type} (hU : UOk U) (t : Nat) (e : Dk U B) : Dk U (T t × B) := ⟨deKa (U.dec t) (U.enc t) e.de, fun n a => (.agg (agoE n (U.enc t a.1)).1 :: (e.en (n + (agoE n (U.enc t a.1)).2.length) a.2).1, (agoE n (U.enc t a.1)).2 ++ (e.en (n + (agoE n (U.enc t a.1)).2.length) a.2).2), fun n l q a h => by
  unfold deKa at h
  split at h
  · split at h
    · rename_i cs2 m q2 hd
      split at h
      · rename_i y hy
        split at h
        · rename_i b hs hb
          cases h
          obtain ⟨k, e1, e2, e3, e4⟩ := ago_ok hd (hU.dcs _ _ _ hy) hs
          subst e2
          obtain ⟨k1, k2⟩ := e.ok _ _ _ _ hb
          refine ⟨by rw [e1]; exact e3.app k1, fun ρ M vs hv => ?_⟩
          obtain ⟨v, ws, rfl, hx, hl⟩ := hv.head
          refine VRs.cons ?_ (k2 ρ M ws hl)
          exact vr_agg (fun vs hvs => e4 ρ M vs hvs) v hx
        · cases h
      · cases h
    · cases h
  · (cases h), fun n a k hk => by
  rcases List.mem_append.1 hk with hk | hk
  · exact agoE_okb _ _ k hk
  · exact e.okb _ _ k hk⟩
/-- The very struct that was lent. -/
def deMe : SV T → Option Unit
  | .agg [.own 0] => some ()
  | _ => none
theorem deMe_eq {x : SV T} {a : Unit} (h : deMe x = some a) : x = .agg [.own 0] := by
  unfold deMe at h
  split at h
  · rfl
  · cases h
def Dc.me (U : Univ T) : Dc U Unit := ⟨deMe, fun _ => .agg [.own 0], fun x a h ρ M v hv => by rw [deMe_eq h] at hv; exact hv⟩

/-- The contract of a function that hands back blocks of its own. -/
def WK {A R : Type} (d : Dl U A) (f : A → Option R) (e : Dk U R) (l : List (SV T)) : Option (CallRes T) := match d.de l with
  | some a => some ⟨R, f a, fun r => (oneOf (e.en 0 r).1, (e.en 0 r).2)⟩
  | none => none
def listOf : SV T → Option (List (SV T))
  | .tup [_] => none
  | .tup l => some l
  | x => some [x]
def finK {R : Type} (e : Dk U R) (p : SV T) (q : List (Blk T)) : Option R := match listOf p with
  | some l => e.de 0 l q
  | none => none
theorem oneOf_vr {p : SV T} {l l' : List (SV T)} (hp : listOf p = some l) {ρ : Nat → Option Value} {M : Mem} {v : Value} (h : ∀ vs, VRs U ρ M l vs → VRs U ρ M l' vs) (hv : VR U ρ M p v) : VR U ρ M (oneOf l') v := by
  have one : (∀ k, p ≠ .tup k) → VR U ρ M (oneOf l') v := by
    intro hn
    have : listOf p = some [p] := by
      unfold listOf
      split
      · exact absurd rfl (hn _)
      · exact absurd rfl (hn _)
      · rfl
    rw [this] at hp
    cases hp
    have := h [v] ⟨rfl, fun i h1 h2 => by
      have : i = 0 := by simpa using h1
      subst this
      exact hv⟩
    match l', this with
    | [x], k => exact k.2 0 (by simp) (by simp)
    | [], k => have := k.1; simp at this
    | _ :: _ :: _, k => have := k.1; simp at this
  cases p with
  | tup k =>
    cases hv with
    | tup _ vs hl hk =>
      have hne : l = k ∧ k.length ≠ 1 := by
        match k, hp with
        | [], hp => cases hp; exact ⟨rfl, by simp⟩
        | [x], hp => cases hp
        | x :: y :: r, hp => cases hp; exact ⟨rfl, by simp⟩
      obtain ⟨rfl, h1⟩ := hne
      have k2 := h vs ⟨hl, hk⟩
      have : oneOf l' = .tup l' := by
        have : l'.length ≠ 1 := by rw [k2.1, ← hl]; exact h1
        match l', this with
        | [x], e => exact absurd rfl e
        | [], _ => rfl
        | _ :: _ :: _, _ => rfl
      rw [this]
      exact .tup _ _ k2.1 k2.2
  | _ => exact one fun k e => by cases e
theorem sndK_fn {A R : Type} {F : Fn T R} {d : Dl F.U A} {f : A → Option R} {e : Dk F.U R} (hF : FnOk0 F) (hz : F.frz = false) (hnl : F.nl = 0) {n : Nat} {fn : Func} {body : Code} (hfn : F.P.funcs[n]? = some fn) (hname : (fn.name == "runtime.NumGoroutine") = false) (hb : fn.body = some body)
    (hnt : fn.ntmps = F.nt) (hres : fn.results.toList = F.res) (hfin : F.fin = finK e) (hl : ∀ a, (d.en a).length ≤ F.nt)
    (h : ∀ a r, f a = some r → ∃ (i j : Nat), ev F (evJ F i j) i [.code body] (st0 (d.en a)) = some r) : Snd F.P F.U n (WK d f e) := by
  refine sndK_of hF hz hnl hfn hname hb hnt hres ?_
  intro l c x hl' hx
  unfold WK at hl'
  split at hl'
  · rename_i a ha
    cases hl'
    obtain ⟨i, j, hev⟩ := h a x hx
    refine ⟨d.en a, d.ok _ _ ha, hl a, i, j, x, hev, ?_⟩
    intro p q hpq
    rw [hfin] at hpq
    unfold finK at hpq
    split at hpq
    · rename_i l hl
      obtain ⟨k1, k2⟩ := e.ok _ _ _ _ hpq
      exact ⟨k1, fun ρ M v hv => oneOf_vr hl (k2 ρ M) hv⟩
    · cases hpq
  · cases hl'
/-- The contract of a function that is lent a block and hands back blocks of its own. -/
def WLK {A B R : Type} (b : Db U B) (d : Dl U A) (f : B × A → Option (R × B)) (e : Dk U R) (k : Blk T) (l : List (SV T)) : Option (CallRes T) := match b.de k, d.de l with
  | some y, some a => some ⟨R × B, f (y, a), fun r => (oneOf (e.en 1 r.1).1, b.en r.2 :: (e.en 1 r.1).2)⟩
  | _, _ => none
def finLK {B R : Type} (e : Dk U R) (b : Db U B) (p : SV T) (q : List (Blk T)) : Option (R × B) := match q with
  | k :: q => match listOf p with
    | some l => match e.de 1 l q, b.de k with
      | some r, some y => some (r, y)
      | _, _ => none
    | none => none
  | _ => none
theorem sndLK_fn {A B R : Type} {F : Fn T (R × B)} {b : Db F.U B} {d : Dl F.U A} {f : B × A → Option (R × B)} {e : Dk F.U R} {sh : Bool} (hF : FnOk0 F) (hz : F.frz = false) (hnl : F.nl = 1) (hsh : ∀ y, shOk sh (b.en y)) {n : Nat} {fn : Func} {body : Code} (hfn : F.P.funcs[n]? = some fn) (hname : (fn.name == "runtime.NumGoroutine") = false) (hb : fn.body = some body)
    (hnt : fn.ntmps = F.nt) (hres : fn.results.toList = F.res) (hfin : F.fin = finLK e b) (hl : ∀ a, (d.en a).length + 1 ≤ F.nt)
    (h : ∀ y a r, f (y, a) = some r → ∃ (i j : Nat), ev F (evJ F i j) i [.code body] (st1 sh (b.en y) (d.en a)) = some r) : SndL F.P F.U n sh (WLK b d f e) := by
  refine sndLK_of hF hz hnl hfn hname hb hnt hres ?_
  intro k l c x hl' hx
  unfold WLK at hl'
  split at hl'
  · rename_i y a hy ha
    cases hl'
    obtain ⟨i, j, hev⟩ := h y a x hx
    refine ⟨b.en y, d.en a, b.ok _ _ hy, hsh y, d.ok _ _ ha, hl a, i, j, x, hev, ?_⟩
    intro p k' bl hpq
    rw [hfin] at hpq
    unfold finLK at hpq
    simp only at hpq
    split at hpq
    · rename_i l' hl'
      split at hpq
      · rename_i r y' hr hy'
        cases hpq
        obtain ⟨k1, k2⟩ := e.ok _ _ _ _ hr
        exact ⟨_, _, rfl, b.ok _ _ hy', k1, e.okb _ _, fun ρ M v hv => oneOf_vr hl' (k2 ρ M) hv⟩
      · cases hpq
    · cases hpq
  · cases hl'
/-- What a plain cell is. -/
def flatC (U : Univ T) : SV T → Prop
  | .v _ => True
  | .row t xs => U.em ≠ some t ∧ ∀ y : T t, ∀ c ∈ U.enc t y, ∃ x, c = .v x
  | _ => False
theorem flatC_on {U : Univ T} {ρ : Nat → Option Value} {M : Mem} {x : SV T} {v : Value} (hx : flatC U x) (h : VR (offE U) ρ M x v) : VR U ρ (onM M) x v := by
  cases x with
  | v y => cases h; exact .v _
  | row t xs =>
    cases h with
    | row _ _ A c f hc h0 hs hm hf hv he =>
      refine .row t xs A c f hc h0 hs hm hf (fun i hi j hj => ?_) (fun B hB hem => absurd hem hx.1)
      obtain ⟨y, hy⟩ := hx.2 xs[i] _ (List.getElem_mem hj)
      have := hv i hi j hj
      have e : ((offE U).enc t xs[i])[j] = .v y := hy
      rw [e] at this
      rw [hy]
      cases this
      exact .v _
  | _ => exact hx.elim
theorem emFree_cells {U : Univ T} {t : Nat} {cs : List (SV T)} (h : ∀ c ∈ cs, flatC U c) : EmFree U (.cells t cs) := by
  intro O ρ M w u hM hB
  obtain ⟨g, vs, e, h1, h2, h3, h4⟩ := hB
  exact ⟨g, vs, e, h1, h2, ⟨h3.len, h3.one, fun i k1 k2 => flatC_on (h _ (List.getElem_mem k1)) (h3.at_ i k1 k2)⟩, h4.1, fun B hB => by cases hB; rfl⟩
theorem dlnil_de {U : Univ T} {l : List (SV T)} {a : Unit} (h : (Dl.nil U).de l = some a) : l = [] := by
  change deN l = some a at h
  unfold deN at h
  split at h
  · rfl
  · cases h
def stM (k : Blk T) : St T := ⟨initS [lentArg false k] 0, [(0, k), (MKB, .mark [])], 1⟩
theorem sndL_dropfn {B R : Type} {F : Fn T (R × B)} {b : Db F.U B} {b0 : Db (offE F.U) B} {d : Dl (offE F.U) Unit} {f : B × Unit → Option (R × B)} {e : Dc F.U R} {e0 : Dc (offE F.U) R} (hF : FnOk0 F) (hU0 : UOk (offE F.U)) (hz : F.frz = true) (hnl : F.nl = 1) (hUE : F.U.E = true) (hem : F.U.em ≠ none) {n : Nat} {fn : Func} {body : Code} (hfn : F.P.funcs[n]? = some fn) (hname : (fn.name == "runtime.NumGoroutine") = false) (hb : fn.body = some body)
    (hnt : fn.ntmps = F.nt) (hres : fn.results.toList = F.res) (hnt1 : 1 ≤ F.nt) (hfin : F.fin = finL e b) (hd : ∀ l a, d.de l = some a → l = []) (hbe : ∀ y, b.en y = b0.en y) (hbd : b.de = b0.de) (hee : ∀ r, e.en r = e0.en r) (hed : e.de = e0.de)
    (hsh : ∀ y, shOk false (b.en y)) (hfl : ∀ y, EmFree F.U (b.en y))
    (h : ∀ y r, f (y, ()) = some r → ∃ (i j : Nat), ev F (evJ F i j) i [.code body] (stM (b.en y)) = some r) : SndL F.P (offE F.U) n false (WL b0 d f e0) := by
  refine sndL_drop hF hU0 hz hnl hUE hem hfn hname hb hnt hres hnt1 ?_
  intro k l c x hl' hx
  unfold WL at hl'
  split at hl'
  · rename_i y a hy ha
    cases hl'
    obtain rfl := hd l a ha
    obtain ⟨i, j, hev⟩ := h y x hx
    refine ⟨b.en y, rfl, by rw [hbe]; exact b0.ok _ _ hy, hsh y, hfl y, i, j, x, hev, ?_⟩
    intro p k' hpq
    rw [hfin] at hpq
    unfold finL at hpq
    simp only at hpq
    split at hpq
    · rename_i r y' hr hy'
      cases hpq
      rw [hbd] at hy'
      rw [hed] at hr
      exact ⟨_, rfl, b0.ok _ _ hy', e0.ok _ _ hr⟩
    · cases hpq
  · cases hl'
end Go.Sx
