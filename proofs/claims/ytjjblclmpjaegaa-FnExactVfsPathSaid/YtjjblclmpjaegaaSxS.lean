/- An evaluator of the model's code over symbolic values, and its soundness: part 18. No condition. -/
import Derived.Test.YtjjblclmpjaegaaSxR
set_option linter.unusedVariables false
set_option linter.unusedSimpArgs false
namespace Go.Sx
open Go.RowKit
variable {T : Nat → Type} {U : Univ T} {P : Program}

def rowOf (e : Nat) : SV T → Option (List (T e))
  | .row t xs => if h : t = e then some (h ▸ xs) else none
  | .v (.slice none 0 0) => some []
  | _ => none

theorem rowOf_vr {e : Nat} {x : SV T} {xs : List (T e)} (h : rowOf e x = some xs) {ρ : Nat → Option Value} {M : Mem} (v : Value) (hv : VR U ρ M x v) : VR U ρ M (.row e xs) v := by
  unfold rowOf at h
  split at h
  · rename_i t ys
    split at h
    · rename_i ht
      subst ht
      cases h
      exact hv
    · cases h
  · cases h
    cases hv
    exact .row _ [] none 0 (fun _ _ => undef) (Nat.le_refl _) (fun _ => ⟨rfl, rfl⟩) (fun a ha => by cases ha) (fun a ha => by cases ha) (fun i hi => by simp at hi) (fun i hi => by simp at hi)
  · cases h

theorem CR.c {ρ : Nat → Option Value} {M : Mem} {x x' : SV T} {cs cs' : List (SV T)} (hx : ∀ v, VR U ρ M x v → VR U ρ M x' v) (k : ∀ vs, CR U ρ M cs vs → CR U ρ M cs' vs) (vs : List Value) (h : CR U ρ M (x :: cs) vs) : CR U ρ M (x' :: cs') vs := by
  cases vs with
  | nil => have := h.len; simp at this
  | cons v vs =>
    exact .cons (hx v (h.at_ 0 (by simp) (by simp))) (h.one v (by simp)) (k vs ⟨by have := h.len; simpa using this, fun u hu => h.one u (by simp [hu]), fun i h1 h2 => h.at_ (i + 1) (by simp; omega) (by simp; omega)⟩)

def w64 (x : Int) : Int := IntKind.wrap .i64 x
/-- A table of calls. -/
def tbl : List (Nat × (List (SV T) → Option (CallRes T))) → Calls_ T
  | [], _ => none
  | (n, f) :: r, m => match Nat.beq n m with
    | true => some f
    | false => tbl r m

def TblOk (P : Program) (U : Univ T) : List (Nat × (List (SV T) → Option (CallRes T))) → Prop
  | [] => True
  | (n, f) :: r => Snd P U n f ∧ TblOk P U r

theorem tbl_ok : ∀ {l : List (Nat × (List (SV T) → Option (CallRes T)))}, TblOk P U l → ∀ n f, tbl l n = some f → Snd P U n f
  | [], _, n, f, h => by cases h
  | (m, g) :: r, hk, n, f, h => by
    simp only [tbl] at h
    split at h
    · rename_i hb
      cases h
      have := beq_eq hb
      subst this
      exact hk.1
    · exact tbl_ok hk.2 n f h

/-- What is still to do at a region. -/
def fnd (r : Nat) : Code → List Item → List Item
  | .region id ops d, k => match Nat.beq id r with
    | true => .code (.region id ops d) :: k
    | false => []
  | .seq a b, k => match fnd r a (.code b :: k) with
    | [] => fnd r b k
    | l => l
  | .cond _ a b, k => match fnd r a k with
    | [] => fnd r b k
    | l => l
  | .block id c, k => fnd r c (.inBlock id :: k)
  | .loop c, k => fnd r c (.inLoop c :: k)
  | _, _ => []

def bodyOf (f : Func) : Code := match f.body with
  | some c => c
  | none => .skip

def annOf : List (Nat × List Nat) → Nat → Option (List Nat)
  | [], _ => none
  | (n, l) :: r, m => match Nat.beq n m with
    | true => some l
    | false => annOf r m

/-! ### Values that are asked for and answered -/
/-- A kind of value: how it is read off a symbolic value, and written. -/
structure Dc (U : Univ T) (A : Type) where
  de : SV T → Option A
  en : A → SV T
  ok : ∀ x a, de x = some a → ∀ ρ M v, VR U ρ M x v → VR U ρ M (en a) v

def deI (k : IntKind) : SV T → Option Int
  | .v (.int k' a) => match decide (k' = k) with
    | true => some a
    | false => none
  | _ => none
def deB : SV T → Option Bool
  | .v (.bool a) => some a
  | _ => none
def deS : SV T → Option ByteArray
  | .v (.string a) => some a
  | _ => none
def deF (n : Nat) : SV T → Option Unit
  | .v (.func (.func m) ⟨[]⟩ ⟨[]⟩) => match Nat.beq m n with
    | true => some ()
    | false => none
  | _ => none
def deA (U : Univ T) (t : Nat) : SV T → Option (T t)
  | .agg cs => U.dec t cs
  | _ => none

theorem deI_eq {k : IntKind} {x : SV T} {a : Int} (h : deI k x = some a) : x = .v (.int k a) := by
  unfold deI at h
  split at h
  · split at h
    · rename_i hd
      have := of_decide_eq_true hd
      subst this
      cases h
      rfl
    · cases h
  · cases h
theorem deB_eq {x : SV T} {a : Bool} (h : deB x = some a) : x = .v (.bool a) := by
  unfold deB at h
  split at h
  · cases h; rfl
  · cases h
theorem deS_eq {x : SV T} {a : ByteArray} (h : deS x = some a) : x = .v (.string a) := by
  unfold deS at h
  split at h
  · cases h; rfl
  · cases h
theorem deF_eq {n : Nat} {x : SV T} {a : Unit} (h : deF n x = some a) : x = .v (.func (.func n) ⟨[]⟩ ⟨[]⟩) := by
  unfold deF at h
  split at h
  · split at h
    · rename_i hd
      have := beq_eq hd
      subst this
      rfl
    · cases h
  · cases h
theorem vr_agg {ρ : Nat → Option Value} {M : Mem} {cs cs' : List (SV T)} (hc : ∀ vs, CR U ρ M cs vs → CR U ρ M cs' vs) (v : Value) (hv : VR U ρ M (.agg cs) v) : VR U ρ M (.agg cs') v := by
  cases hv with
  | agg l vs hl hf h =>
    have := hc vs ⟨hl, hf, h⟩
    exact .agg _ _ this.len this.one this.at_

def Dc.int (U : Univ T) (k : IntKind) : Dc U Int := ⟨deI k, fun a => .v (.int k a), fun x a h ρ M v hv => by rw [deI_eq h] at hv; exact hv⟩
def Dc.bool (U : Univ T) : Dc U Bool := ⟨deB, fun a => .v (.bool a), fun x a h ρ M v hv => by rw [deB_eq h] at hv; exact hv⟩
def Dc.str (U : Univ T) : Dc U ByteArray := ⟨deS, fun a => .v (.string a), fun x a h ρ M v hv => by rw [deS_eq h] at hv; exact hv⟩
def Dc.fn (U : Univ T) (n : Nat) : Dc U Unit := ⟨deF n, fun _ => .v (.func (.func n) ⟨[]⟩ ⟨[]⟩), fun x a h ρ M v hv => by rw [deF_eq h] at hv; exact hv⟩
def Dc.row (U : Univ T) (e : Nat) : Dc U (List (T e)) := ⟨rowOf e, fun a => .row e a, fun x a h ρ M v hv => rowOf_vr h v hv⟩
def Dc.agg (hU : UOk U) (t : Nat) : Dc U (T t) := ⟨deA U t, fun a => .agg (U.enc t a), fun x a h ρ M v hv => by
  unfold deA at h
  split at h
  · exact vr_agg (fun vs => hU.dec t _ _ h ρ M vs) v hv
  · cases h⟩

structure Dl (U : Univ T) (A : Type) where
  de : List (SV T) → Option A
  en : A → List (SV T)
  ok : ∀ x a, de x = some a → ∀ ρ M vs, VRs U ρ M x vs → VRs U ρ M (en a) vs

def deN : List (SV T) → Option Unit
  | [] => some ()
  | _ => none
def de1 {A : Type} (d : SV T → Option A) : List (SV T) → Option A
  | [x] => d x
  | _ => none
def deC {A B : Type} (d : SV T → Option A) (e : List (SV T) → Option B) : List (SV T) → Option (A × B)
  | x :: l => match d x, e l with
    | some a, some b => some (a, b)
    | _, _ => none
  | _ => none
theorem VRs.head {ρ : Nat → Option Value} {M : Mem} {x : SV T} {l : List (SV T)} {vs : List Value} (h : VRs U ρ M (x :: l) vs) : ∃ v ws, vs = v :: ws ∧ VR U ρ M x v ∧ VRs U ρ M l ws := by
  cases vs with
  | nil => have := h.1; simp at this
  | cons v ws => exact ⟨v, ws, rfl, h.2 0 (by simp) (by simp), by have := h.1; simpa using this, fun i h1 h2 => h.2 (i + 1) (by simp; omega) (by simp; omega)⟩
def Dl.nil (U : Univ T) : Dl U Unit := ⟨deN, fun _ => [], fun x a h ρ M vs hv => by
  unfold deN at h
  split at h
  · exact hv
  · cases h⟩
def Dl.one {A : Type} (d : Dc U A) : Dl U A := ⟨de1 d.de, fun a => [d.en a], fun x a h ρ M vs hv => by
  unfold de1 at h
  split at h
  · obtain ⟨v, ws, rfl, hx, hl⟩ := hv.head
    exact VRs.cons (d.ok _ _ h ρ M v hx) hl
  · cases h⟩
def Dl.cons {A B : Type} (d : Dc U A) (e : Dl U B) : Dl U (A × B) := ⟨deC d.de e.de, fun a => d.en a.1 :: e.en a.2, fun x a h ρ M vs hv => by
  unfold deC at h
  split at h
  · split at h
    · rename_i h1 h2
      cases h
      obtain ⟨v, ws, rfl, hx, hl⟩ := hv.head
      exact VRs.cons (d.ok _ _ h1 ρ M v hx) (e.ok _ _ h2 ρ M ws hl)
    · cases h
  · cases h⟩
/-- Several results. -/
def deT {A : Type} (d : List (SV T) → Option A) : SV T → Option A
  | .tup l => d l
  | _ => none
def Dc.tup {A : Type} (d : Dl U A) : Dc U A := ⟨deT d.de, fun a => .tup (d.en a), fun x a h ρ M v hv => by
  unfold deT at h
  split at h
  · cases hv with
    | tup l vs hl k =>
      have := d.ok _ _ h ρ M vs ⟨hl, k⟩
      exact .tup _ _ this.1 this.2
  · cases h⟩

/-- A function's contract: what it computes. -/
def W {A R : Type} (d : Dl U A) (f : A → Option R) (e : Dc U R) (l : List (SV T)) : Option (CallRes T) := match d.de l with
  | some a => some ⟨R, f a, fun r => (e.en r, [])⟩
  | none => none
def finD {R : Type} (e : Dc U R) (p : SV T) (q : List (Blk T)) : Option R := match q with
  | [] => e.de p
  | _ => none

/-- A function's contract, out of its evaluation. -/
theorem snd_fn {A R : Type} {F : Fn T R} {d : Dl F.U A} {f : A → Option R} {e : Dc F.U R} (hF : FnOk F) {n : Nat} {fn : Func} {body : Code} (hfn : F.P.funcs[n]? = some fn) (hname : (fn.name == "runtime.NumGoroutine") = false) (hb : fn.body = some body)
    (hnt : fn.ntmps = F.nt) (hres : fn.results.toList = F.res) (hfin : F.fin = finD e) (hl : ∀ a, (d.en a).length ≤ F.nt)
    (h : ∀ a r, f a = some r → ∃ (i j : Nat), ev F (evJ F i j) i [.code body] (st0 (d.en a)) = some r) : Snd F.P F.U n (W d f e) := by
  refine snd_of hF hfn hname hb hnt hres ?_
  intro l c x hl' hx
  unfold W at hl'
  split at hl'
  · rename_i a ha
    cases hl'
    obtain ⟨i, j, hev⟩ := h a x hx
    refine ⟨d.en a, d.ok _ _ ha, hl a, i, j, x, hev, ?_⟩
    intro p q hpq
    rw [hfin] at hpq
    unfold finD at hpq
    split at hpq
    · exact ⟨rfl, e.ok _ _ hpq⟩
    · cases hpq
  · cases hl'

/-- The rounds of a function: one step over its places, again and again. -/
def run {J R : Type} (step : (J → Option R) → J → Option R) (k : Nat) : J → Option R := Nat.rec (fun _ => none) (fun _ ih => step ih) k
theorem evJ_run {J R : Type} {F : Fn T R} {n : Nat} (td : J → List Item) (emb : J → St T) (step : (J → Option R) → J → Option R)
    (h : ∀ G p, evFrom F G n (td p) (emb p) = step (fun q => G (td q) (emb q)) p) : ∀ j p, evJ F n j (td p) (emb p) = run step j p
  | 0, p => rfl
  | j + 1, p => by
    show evFrom F (evJ F n j) n (td p) (emb p) = step (run step j) p
    rw [h, show (fun q => evJ F n j (td q) (emb q)) = run step j from funext fun q => evJ_run td emb step h j q]
end Go.Sx
