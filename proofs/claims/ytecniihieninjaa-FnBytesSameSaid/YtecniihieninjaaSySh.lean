/- An evaluator of the model's code over symbolic values, and its soundness: part 25. No condition. -/
import Derived.Test.YtecniihieninjaaSyS
set_option linter.unusedVariables false
set_option linter.unusedSimpArgs false
namespace Go.Sx
open Go.RowKit
variable {T : Nat → Type} {U : Univ T} {P : Program}

/-! ### Functions that are lent a heap of handles: what they compute -/
def deH (e : Nat) : SV T → Option Nat
  | .hnd t h => match Nat.beq t e with
    | true => some h
    | false => none
  | .v (.slice none 0 0) => some 0
  | _ => none
theorem deH_vr {e : Nat} {x : SV T} {h : Nat} (k : deH e x = some h) {ρ : Nat → Option Value} {M : Mem} (v : Value) (hv : VR U ρ M x v) : VR U ρ M (.hnd e h) v := by
  unfold deH at k
  split at k
  · split at k
    · rename_i t h' hb
      have := beq_eq hb
      subst this
      cases k
      exact hv
    · cases k
  · cases k
    cases hv
    exact .hnd0 e
  · cases k
theorem deH_to {e : Nat} {x : SV T} {h : Nat} (k : deH e x = some h) : CellTo U x (.hnd e h) := by
  refine ⟨fun ρ M v => deH_vr k v, fun t ys hx => ?_⟩
  subst hx
  cases k
def Dc.hnd (U : Univ T) (e : Nat) : Dc U Nat := ⟨deH e, fun a => .hnd e a, fun x a h ρ M v hv => deH_vr h v hv⟩

def WP {A R : Type} (d : Dl U A) (f : List (Cell T) × A → Option (R × List (Cell T))) (e : Dc U R) (_ : Blk T) (cs : List (Cell T)) (l : List (SV T)) : Option (CallRes T) := match d.de l with
  | some a => some ⟨R × List (Cell T), f (cs, a), fun r => (e.en r.1, [.mark r.2])⟩
  | none => none
def finP {R : Type} (e : Dc U R) (p : SV T) (q : List (Blk T)) : Option (R × List (Cell T)) := match q with
  | [.mark cs] => match e.de p with
    | some r => some (r, cs)
    | none => none
  | _ => none
def stP0 (cs : List (Cell T)) (l : List (SV T)) : St T := ⟨initS l 0, [(PLB, .mark cs)], 0⟩
def stP1 (k : Blk T) (cs : List (Cell T)) (l : List (SV T)) : St T := ⟨initS (.ptr 0 0 :: l) 0, [(0, k), (PLB, .mark cs)], 1⟩

theorem sndP_fn {A R : Type} {F : Fn T (R × List (Cell T))} {d : Dl F.U A} {f : List (Cell T) × A → Option (R × List (Cell T))} {e : Dc F.U R} (hF : FnOk F) (hm : F.U.hm = true) (hnl : F.nl = 0) {n : Nat} {fn : Func} {body : Code} (hfn : F.P.funcs[n]? = some fn) (hname : (fn.name == "runtime.NumGoroutine") = false) (hb : fn.body = some body)
    (hnt : fn.ntmps = F.nt) (hres : fn.results.toList = F.res) (hfin : F.fin = finP e) (hl : ∀ a, (d.en a).length ≤ F.nt)
    (h : ∀ cs a r, f (cs, a) = some r → ∃ (i j : Nat), ev F (evJ F i j) i [.code body] (stP0 cs (d.en a)) = some r) : SndP F.P F.U n false (WP d f e) := by
  refine sndP_of hF hm (ln := false) hnl hfn hname hb hnt hres ?_
  intro k cs l c x hl' hx
  unfold WP at hl'
  split at hl'
  · rename_i a ha
    cases hl'
    obtain ⟨i, j, hev⟩ := h cs a x hx
    refine ⟨.dead, d.en a, fun h => (by cases h), d.ok _ _ ha, hl a, i, j, x, hev, ?_⟩
    intro p cs' ks hpq
    rw [hfin] at hpq
    unfold finP at hpq
    split at hpq
    · rename_i cs2 he
      cases he
      split at hpq
      · rename_i r hr
        cases hpq
        exact ⟨[], rfl, trivial, e.ok _ _ hr⟩
      · cases hpq
    · cases hpq
  · cases hl'

def WPL {A B R : Type} (b : Db U B) (d : Dl U A) (f : B × List (Cell T) × A → Option (R × B × List (Cell T))) (e : Dc U R) (k : Blk T) (cs : List (Cell T)) (l : List (SV T)) : Option (CallRes T) := match b.de k, d.de l with
  | some y, some a => some ⟨R × B × List (Cell T), f (y, cs, a), fun r => (e.en r.1, [.mark r.2.2, b.en r.2.1])⟩
  | _, _ => none
def finPL {B R : Type} (e : Dc U R) (b : Db U B) (p : SV T) (q : List (Blk T)) : Option (R × B × List (Cell T)) := match q with
  | [.mark cs, k] => match e.de p, b.de k with
    | some r, some y => some (r, y, cs)
    | _, _ => none
  | _ => none
theorem sndPL_fn {A B R : Type} {F : Fn T (R × B × List (Cell T))} {b : Db F.U B} {d : Dl F.U A} {f : B × List (Cell T) × A → Option (R × B × List (Cell T))} {e : Dc F.U R} (hF : FnOk F) (hm : F.U.hm = true) (hnl : F.nl = 1) (hcl : ∀ y, ∃ t ks, b.en y = .cells t ks) {n : Nat} {fn : Func} {body : Code} (hfn : F.P.funcs[n]? = some fn) (hname : (fn.name == "runtime.NumGoroutine") = false) (hb : fn.body = some body)
    (hnt : fn.ntmps = F.nt) (hres : fn.results.toList = F.res) (hfin : F.fin = finPL e b) (hl : ∀ a, (d.en a).length + 1 ≤ F.nt)
    (h : ∀ y cs a r, f (y, cs, a) = some r → ∃ (i j : Nat), ev F (evJ F i j) i [.code body] (stP1 (b.en y) cs (d.en a)) = some r) : SndP F.P F.U n true (WPL b d f e) := by
  refine sndP_of hF hm (ln := true) hnl hfn hname hb hnt hres ?_
  intro k cs l c x hl' hx
  unfold WPL at hl'
  split at hl'
  · rename_i y a hy ha
    cases hl'
    obtain ⟨i, j, hev⟩ := h y cs a x hx
    refine ⟨b.en y, d.en a, fun _ => ⟨b.ok _ _ hy, hcl y⟩, d.ok _ _ ha, hl a, i, j, x, hev, ?_⟩
    intro p cs' ks hpq
    rw [hfin] at hpq
    unfold finPL at hpq
    split at hpq
    · rename_i cs2 k' he
      cases he
      split at hpq
      · rename_i r y' hr hy'
        cases hpq
        exact ⟨[b.en y'], rfl, ⟨b.ok _ _ hy', trivial⟩, e.ok _ _ hr⟩
      · cases hpq
    · cases hpq
  · cases hl'

def WQ {A R : Type} (d : Dl U A) (f : List (Cell T) × A → Option R) (e : Dc U R) (cs : List (Cell T)) (l : List (SV T)) : Option (CallRes T) := match d.de l with
  | some a => some ⟨R, f (cs, a), fun r => (e.en r, [])⟩
  | none => none
def fstO {A R : Type} (f : List (Cell T) × A → Option (R × List (Cell T))) (a : List (Cell T) × A) : Option R := match f a with
  | some r => some r.1
  | none => none
theorem sndQ_fn {A R : Type} {n : Nat} {d : Dl U A} {f : List (Cell T) × A → Option (R × List (Cell T))} {e : Dc U R} (S : SndP P U n false (WP d f e)) (h : ∀ cs a r cs', f (cs, a) = some (r, cs') → cs' = cs) : SndQ P U n (WQ d (fstO f) e) := by
  refine sndQ_of S fun cs l c x hl hx => ?_
  unfold WQ at hl
  split at hl
  · rename_i a ha
    cases hl
    have hx' : fstO f (cs, a) = some x := hx
    unfold fstO at hx'
    split at hx'
    · rename_i r hr
      cases hx'
      refine ⟨⟨_, _, _⟩, r, by unfold WP; rw [ha], hr, ?_, rfl⟩
      have := h cs a r.1 r.2 hr
      show [Blk.mark r.2] = _
      rw [this]
    · cases hx'
  · cases hl

/-! ### What does not look at the heap -/
def Univ.wh (U : Univ T) (h : Bool) : Univ T := ⟨U.sz, U.dflt, U.enc, U.dec, U.u8, U.em, U.E, h⟩
section
variable {h : Bool} {ρ : Nat → Option Value} {M : Mem} {w : World}
theorem VR.wh {x : SV T} {v : Value} (k : VR U ρ M x v) : VR (U.wh h) ρ M x v := by
  induction k with
  | any x => exact .any x
  | v x => exact .v x
  | row t xs A c f hc h0 hs hm hf hv he ih => exact .row t xs A c f hc h0 hs hm hf ih he
  | sub t xs A c f hc h0 hs hm hf hv ih => exact .sub t xs A c f hc h0 hs hm hf ih
  | own b a n c h => exact .own b a n c h
  | ptr b g off h => exact .ptr b g off h
  | eptr b g n c t i off h => exact .eptr b g n c t i off h
  | rptr t xs i off g o f h0 h1 hm hf hv ih => exact .rptr t xs i off g o f h0 h1 hm hf ih
  | hnd0 t => exact .hnd0 t
  | hnd t j a n c h => exact .hnd t j a n c h
  | hptr j g n c t i off h => exact .hptr j g n c t i off h
  | agg l vs hl hf h ih => exact .agg l vs hl hf ih
  | tup l vs hl h ih => exact .tup l vs hl ih
theorem VR.wh' {x : SV T} {v : Value} (k : VR (U.wh h) ρ M x v) : VR U ρ M x v := (k.wh (h := U.hm) : VR ((U.wh h).wh U.hm) ρ M x v)
theorem CR.wh {cs : List (SV T)} {vs : List Value} (k : CR U ρ M cs vs) : CR (U.wh h) ρ M cs vs := ⟨k.len, k.one, fun i h1 h2 => (k.at_ i h1 h2).wh⟩
theorem CR.wh' {cs : List (SV T)} {vs : List Value} (k : CR (U.wh h) ρ M cs vs) : CR U ρ M cs vs := ⟨k.len, k.one, fun i h1 h2 => (k.at_ i h1 h2).wh'⟩
theorem BR.wh {O : Nat → Prop} {v : Value} {b : Blk T} (k : BR U O ρ M w v b) : BR (U.wh h) O ρ M w v b := by
  cases b with
  | dead => trivial
  | mark cs => exact k
  | cells t cs =>
    obtain ⟨g, vs, e, h1, h2, h3, h4⟩ := k
    exact ⟨g, vs, e, h1, h2, h3.wh, h4⟩
  | arr t xs =>
    obtain ⟨cl, h1, h2, h3, h4⟩ := k
    exact ⟨cl, h1, h2.wh, h3, h4⟩
  | frz t xs => exact ⟨k.1, k.2.wh⟩
theorem BR.wh' {O : Nat → Prop} {v : Value} {b : Blk T} (k : BR (U.wh h) O ρ M w v b) : BR U O ρ M w v b := (k.wh (h := U.hm) : BR ((U.wh h).wh U.hm) O ρ M w v b)
theorem Snd.wh {n : Nat} {F : List (SV T) → Option (CallRes T)} (S : Snd P U n F) : Snd P (U.wh h) n F where
  enter := S.enter
  run := fun l c x h1 h2 w M vs h3 h4 h5 h6 => by
    refine (S.run l c x h1 h2 w M vs h3 h4 h5 ⟨h6.1, fun i a b => (h6.2 i a b).wh'⟩).mono ?_
    rintro e w' ⟨v, ρ', M', he, A⟩
    exact ⟨v, ρ', M', he, A.bel, A.le, A.old, A.sub, A.vr.wh, fun i k hk => (A.blk i k hk).imp fun v' hv => ⟨hv.1, hv.2.wh⟩, A.inj, A.bpw, A.bpo, A.kp, A.hpe⟩
theorem SndL.wh {n : Nat} {sh : Bool} {F : Blk T → List (SV T) → Option (CallRes T)} (S : SndL P U n sh F) : SndL P (U.wh h) n sh F where
  enter := S.enter
  run := fun k l c x h1 h2 w M u vs h3 h4 h5 h6 h7 h8 => by
    refine (S.run k l c x h1 h2 w M u vs h3 h4 h5 h6.wh' h7 ⟨h8.1, fun i a b => (h8.2 i a b).wh'⟩).mono ?_
    rintro e w' ⟨v, k', bl, ρ', M', he, ho, A⟩
    exact ⟨v, k', bl, ρ', M', he, ho, A.bel, A.le, A.old, A.sub, A.r0, A.vr.wh, A.blk.wh, A.nr, fun i k hk => (A.blks i k hk).imp fun v' hv => ⟨hv.1, hv.2.1, hv.2.2.wh⟩, A.inj, A.bpw, A.bpo, A.kp, A.hpe⟩

/-- A function that is lent the heap, called with no heap. -/
theorem SndP.top {n : Nat} {F : Blk T → List (Cell T) → List (SV T) → Option (CallRes T)} (S : SndP P U n false F) {G : List (SV T) → Option (CallRes T)} (hE : U.E = false)
    (hG : ∀ l c x, G l = some c → c.run = some x → ∃ c' x', F .dead [] l = some c' ∧ c'.run = some x' ∧ (c.out x).2 = [] ∧ (c'.out x').1 = (c.out x).1 ∧ scal (c.out x).1 = true)
    (hA : ∀ l c, G l = some c → ∀ (M : Mem) vs, VRs U noR0 M l vs → VRs U noR0 ⟨M.pin, M.bp, fun _ => none⟩ l vs) : Snd P (U.wh false) n G where
  enter := S.enter
  run := fun l c x h1 h2 w M vs h3 h4 h5 h6 => by
    obtain ⟨c', x', g1, g2, g3, g4, g5⟩ := hG l c x h1 h2
    have hbp : M.bp = none := h5 hE
    have C := S.run .dead [] l c' x' g1 g2 w ⟨M.pin, M.bp, fun _ => none⟩ (fun _ => False) [] vs h3 hbp ⟨fun j c h => by simp at h, fun _ _ => rfl, fun i j ci cj vi vj g h => by simp at h, fun j c v g h => by simp at h⟩ rfl (hA l c h1 M vs ⟨h6.1, fun i a b => (h6.2 i a b).wh'⟩)
    refine C.mono ?_
    rintro e w' ⟨v, M', cs', ks, he, ho, A⟩
    have hown : ∀ g, (frmP w [] ⟨M.pin, M.bp, fun _ => none⟩ ([] : List (Cell T))).own g → w.heap.size ≤ g := by
      rintro g (k | ⟨u, k, _⟩ | ⟨j, c, v, k, _⟩)
      · exact k
      · simp [frmP] at k
      · simp at k
    refine ⟨v, fun _ => none, ⟨M'.pin, M'.bp, M.hp⟩, he, ⟨A.fr.os, A.fr.tape, A.fr.output, A.fr.size, fun g hg => A.fr.block g fun k => absurd (hown g k) (Nat.not_le_of_lt hg)⟩, ⟨A.le.pin, fun B hB => (by rw [show M'.bp = none from A.bp] at hB; cases hB), fun _ _ h => h⟩, fun b o hb => A.old b o fun k => absurd (hown b k) (Nat.not_le_of_lt hb), A.sub, (g4 ▸ A.vr.wh).scal g5, fun i k hk => (by rw [g3] at hk; simp at hk), fun i j ki kj vi vj g hi => (by rw [g3] at hi; simp at hi), BpOk.none_ A.bp, fun B hB => (by rw [show M'.bp = none from A.bp] at hB; cases hB), (by show M'.bp.isSome = M.bp.isSome; rw [A.bp, hbp]), rfl⟩
theorem VR.flat {M' : Mem} {t : Nat} {xs : List (T t)} {v : Value} (k : VR U ρ M (.row t xs) v) (hp : M'.pin = M.pin) (hb : M'.bp = M.bp) (hf : ∀ y, (U.enc t y).all (fun c => match c with | .v _ => true | _ => false) = true) : VR U ρ M' (.row t xs) v := by
  cases k with
  | row _ _ A c f hc h0 hs hm hf' hv he =>
    refine .row t xs A c f hc h0 hs (fun a ha i h j hj => by rw [hp]; exact hm a ha i h j hj) hf' (fun i hi j hj => ?_) (fun B hB => he B (hb ▸ hB))
    have h1 := hv i hi j hj
    have h2 := List.all_eq_true.1 (hf xs[i]) _ (List.getElem_mem hj)
    generalize (U.enc t xs[i])[j] = c at h1 h2
    cases c with
    | v y => cases h1; exact .v _
    | _ => cases h2
end
theorem cndS {α : Type} {c : Bool} {x y : Option α} {r : α} (h : cond c x y = some r) : x = some r ∨ y = some r := by
  cases c
  · exact .inr h
  · exact .inl h
end Go.Sx
