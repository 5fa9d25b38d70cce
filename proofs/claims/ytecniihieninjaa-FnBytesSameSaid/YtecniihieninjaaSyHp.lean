/- An evaluator of the model's code over symbolic values, and its soundness: part 15. No condition. -/
import Derived.Test.YtecniihieninjaaSyPa
set_option linter.unusedVariables false
set_option linter.unusedSimpArgs false
namespace Go.Sx
open Go.RowKit
variable {T : Nat → Type} {U : Univ T} {P : Program}

/-! ### A heap of handles, beside the memory that the old operations know -/
def Mem.wh (M0 M : Mem) : Mem := ⟨M0.pin, M0.bp, M.hp⟩
def isMark : Blk T → Bool
  | .mark _ => true
  | _ => false

structure PoolR (U : Univ T) (w0 : Frm) (env : Nat → Blk T) (ρ : Nat → Option Value) (M : Mem) (w : World) (cs : List (Cell T)) : Prop where
  cell : ∀ j c, cs[j]? = some c → c = .dead ∨ ∃ v, M.hp j = some v ∧ BR U w0.own noR0 M w v c.blk
  fresh : ∀ j, cs.length ≤ j → M.hp j = none
  inj : ∀ i j ci cj vi vj g, cs[i]? = some ci → cs[j]? = some cj → ci.live = true → cj.live = true → M.hp i = some vi → M.hp j = some vj → blockOf vi = some g → blockOf vj = some g → i = j
  apart : ∀ j c b vj vb g, cs[j]? = some c → c.live = true → (env b).live = true → M.hp j = some vj → ρ b = some vb → blockOf vj = some g → blockOf vb = some g → False
  bp : M.bp = none
  nmk : isMark (env MKB) = false
  old : ∀ j c v g, cs[j]? = some c → c.live = true → M.hp j = some v → blockOf v = some g → g < w.heap.size ∧ w0.own g

structure HX (U : Univ T) (w0 : Frm) (M0 : Mem) (env : Nat → Blk T) (ρ : Nat → Option Value) (M : Mem) (w : World) : Prop where
  le : ∀ j v, M0.hp j = some v → M.hp j = some v
  off : U.hm = false → M.hp = M0.hp
  on : U.hm = true → ∃ cs, env PLB = .mark cs ∧ PoolR U w0 env ρ M w cs

section
variable {w0 : Frm} {M0 : Mem} {nt nid : Nat} {s : St T} {a : Act} {w : World} {ρ ρ' : Nat → Option Value} {M : Mem} {c : Step T} {o : Oper} {Tb : Calls_ T} {α : Type 1} {r : α}

structure Rh8 (U : Univ T) (w0 : Frm) (M0 : Mem) (nt : Nat) (s : St T) (nid : Nat) (a : Act) (w : World) (ρ : Nat → Option Value) (M : Mem) : Prop where
  mr : MR U w0 (M0.wh M) s.blk ρ M w
  tm : ∀ t, VR U ρ M (s.get t) (a.tmps.getD t undef)
  sz : a.tmps.size = nt
  df : a.defers = []
  nw : ∀ b, nid ≤ b → b < nid + 8 → ρ b = none
  hx : HX U w0 M0 s.blk ρ M w
structure Rh (U : Univ T) (w0 : Frm) (M0 : Mem) (nt : Nat) (s : St T) (nid : Nat) (a : Act) (w : World) (ρ : Nat → Option Value) (M : Mem) : Prop extends Rh8 U w0 M0 nt s nid a w ρ M where
  nx : ∀ b, nid + 8 ≤ b → b < nid + 16 → ρ b = none
theorem Rh8.rl (R : Rh8 U w0 M0 nt s nid a w ρ M) : Rl U w0 (M0.wh M) nt s nid a w ρ M := ⟨R.mr, R.tm, R.sz, R.df, R.nw⟩

def PostH8 (U : Univ T) (w0 : Frm) (M0 : Mem) (s : St T) (nid : Nat) (ρ : Nat → Option Value) (M : Mem) (x : SV T) (ws : List (Nat × Blk T)) (v : Value) (w' : World) : Prop :=
  ∃ ρ' M', LeR ρ ρ' ∧ LeM M M' ∧ (∀ b, ¬ (nid ≤ b ∧ b < nid + 8) → ρ b = none → ρ' b = none) ∧ MR U w0 (M0.wh M') (s.puts ws).blk ρ' M' w' ∧ HX U w0 M0 (s.puts ws).blk ρ' M' w' ∧ VR U ρ' M' x v
def PostH (U : Univ T) (w0 : Frm) (M0 : Mem) (s : St T) (nid : Nat) (ρ : Nat → Option Value) (M : Mem) (x : SV T) (ws : List (Nat × Blk T)) (v : Value) (w' : World) : Prop :=
  ∃ ρ' M', LeR ρ ρ' ∧ LeM M M' ∧ (∀ b, ¬ (nid ≤ b ∧ b < nid + 16) → ρ b = none → ρ' b = none) ∧ MR U w0 (M0.wh M') (s.puts ws).blk ρ' M' w' ∧ HX U w0 M0 (s.puts ws).blk ρ' M' w' ∧ VR U ρ' M' x v

theorem PostH8.up {x : SV T} {ws : List (Nat × Blk T)} {v : Value} {w' : World} (h : PostH8 U w0 M0 s nid ρ M x ws v w') : PostH U w0 M0 s nid ρ M x ws v w' := by
  obtain ⟨ρ', M', h1, h2, h3, h4⟩ := h
  exact ⟨ρ', M', h1, h2, fun b hb => h3 b (fun h => hb ⟨h.1, by omega⟩), h4⟩

theorem OpOk.imp {Q Q' : Value → World → Prop} (h : OpOk P o a w Q) (k : ∀ v w', Q v w' → Q' v w') : OpOk P o a w Q' := by
  rcases h with ⟨v, w', h1, h2⟩ | ⟨w', h1, h2⟩ | ⟨f, args, h1, h2⟩
  · exact .inl ⟨v, w', h1, k _ _ h2⟩
  · exact .inr (.inl ⟨w', h1, k _ _ h2⟩)
  · exact .inr (.inr ⟨f, args, h1, h2.mono fun e w' ⟨v, e1, e2⟩ => ⟨v, e1, k _ _ e2⟩⟩)

theorem beq_iff (a b : Nat) : Nat.beq a b = true ↔ a = b := ⟨Nat.eq_of_beq_eq_true, fun h => by subst h; exact Nat.beq_refl a⟩
theorem blk_noPL (s : St T) (ws : List (Nat × Blk T)) (b : Nat) : (s.puts (noPL ws)).blk b = if b = PLB then s.blk b else (s.puts ws).blk b := by
  induction ws with
  | nil => show s.blk b = _; split <;> rfl
  | cons p ws ih =>
    obtain ⟨k, x⟩ := p
    unfold noPL
    rw [List.filter_cons]
    cases hk : Nat.beq k PLB with
    | true =>
      have := (beq_iff k PLB).1 hk
      subst this
      simp only [Bool.not_true, Bool.false_eq_true, if_false]
      rw [show (s.puts (List.filter (fun p => !Nat.beq p.1 PLB) ws)).blk b = _ from ih, puts_cons, blk_put1]
      by_cases e : b = PLB
      · rw [if_pos e, if_pos e]
      · rw [if_neg e, if_neg e, if_neg (Ne.symm e)]
    | false =>
      simp only [Bool.not_false, if_true]
      rw [puts_cons, blk_put1, puts_cons, blk_put1, show (s.puts (List.filter (fun p => !Nat.beq p.1 PLB) ws)).blk b = _ from ih]
      by_cases e : k = b
      · subst e
        have : k ≠ PLB := fun h => by rw [(beq_iff k PLB).2 h] at hk; cases hk
        rw [if_pos rfl, if_neg this, if_pos rfl]
      · rw [if_neg e, if_neg e]

/-- Marks and dead names may change places. -/
theorem MR.env {env env' : Nat → Blk T} (h : MR U w0 M0 env ρ M w) (e : ∀ b, env' b = env b ∨ (b ≠ MKB ∧ (env' b = .dead ∨ ∃ cs, env' b = .mark cs))) : MR U w0 M0 env' ρ M w where
  fr := h.fr
  pin := h.pin
  m0 := h.m0
  mo := h.mo
  sub := h.sub
  blk := fun b => by
    rcases e b with e | ⟨_, e | e⟩
    · rw [e]; exact h.blk b
    · exact .inl e
    · exact .inr (.inl e)
  inj := fun b b' v v' g h1 h2 => by
    have k : ∀ b, (env' b).live = true → (env b).live = true := fun b hb => by
      rcases e b with e | ⟨_, e | ⟨cs, e⟩⟩
      · rw [← e]; exact hb
      · rw [e] at hb; cases hb
      · rw [e] at hb; cases hb
    exact h.inj b b' v v' g (k b h1) (k b' h2)
  bpw := h.bpw
  bpo := h.bpo
  kp := h.kp
  mrk := fun cs hm => by
    rcases e MKB with e | ⟨e, _⟩
    · exact h.mrk cs (e ▸ hm)
    · exact absurd rfl e
  e0 := h.e0
  hpo := h.hpo

/-- The frame in which an old operation runs: the world as it stands, and the blocks of one's own. -/
def frmB (w0 : Frm) (env : Nat → Blk T) (ρ : Nat → Option Value) (w : World) : Frm := ⟨w, [], w0.keep, fun g => ∃ b v, (env b).live = true ∧ ρ b = some v ∧ blockOf v = some g⟩

theorem MR.live_own (h : MR U w0 M0 s.blk ρ M w) {b : Nat} {v : Value} {g : Nat} (hl : (s.blk b).live = true) (hv : ρ b = some v) (hg : blockOf v = some g) : w0.own g := (h.lt hl hv hg).2

theorem BR.lower' {O O' : Nat → Prop} {v : Value} {k : Blk T} (h : BR U O ρ M w v k) (hb : ∀ g, k.live = true → blockOf v = some g → O g → O' g) : BR U O' ρ M w v k := by
  cases k with
  | dead => trivial
  | mark cs => exact h
  | cells t cs =>
    obtain ⟨g, vs, rfl, hg, rest⟩ := h
    exact ⟨g, vs, rfl, hb g rfl rfl hg, rest⟩
  | arr t xs =>
    obtain ⟨cl, h1, h2, h3, h4⟩ := h
    exact ⟨cl, h1, h2, h3, fun g hg => hb g rfl (blockOf_own hg) (h4 g hg)⟩
  | frz t xs => exact h

theorem frame_in (h : MR U w0 M0 s.blk ρ M w) (hbp : M.bp = none) : MR U (frmB w0 s.blk ρ w) M s.blk ρ M w where
  fr := ⟨rfl, rfl, rfl, Nat.le_refl _, fun _ _ => rfl⟩
  pin := fun i v hi => by simp [frmB] at hi
  m0 := .refl _
  mo := fun _ _ _ => rfl
  sub := h.sub
  blk := fun b => by
    rcases h.blk b with d | d | ⟨v, hv, hB⟩
    · exact .inl d
    · exact .inr (.inl d)
    · exact .inr (.inr ⟨v, hv, hB.lower' fun g hl hg _ => .inr (.inr ⟨b, v, hl, hv, hg⟩)⟩)
  inj := h.inj
  bpw := h.bpw
  bpo := fun B hB => by rw [hbp] at hB; cases hB
  kp := fun _ => rfl
  mrk := fun cs hm => by
    have := (h.mrk cs hm).2.1
    rw [hbp] at this; cases this
  e0 := h.e0
  hpo := rfl

theorem frame_own (h : MR U w0 M0 s.blk ρ M w) {g : Nat} (hg : (frmB w0 s.blk ρ w).own g) : w0.own g := by
  rcases hg with h1 | ⟨v, h1, h2⟩ | ⟨b, v, h1, h2, h3⟩
  · exact .inl (Nat.le_trans h.fr.size h1)
  · simp [frmB] at h1
  · exact h.live_own h1 h2 h3

theorem frame_out (h : MR U w0 (M0.wh M) s.blk ρ M w) (hbp : M.bp = none) {env' : Nat → Blk T} {M' : Mem} {w' : World} (hρ : LeR ρ ρ') (hM : LeM M M') (hmk : ∀ cs, env' MKB ≠ .mark cs) (k : MR U (frmB w0 s.blk ρ w) M env' ρ' M' w') : MR U w0 (M0.wh M') env' ρ' M' w' where
  fr := ⟨k.fr.os.trans h.fr.os, k.fr.tape.trans h.fr.tape, k.fr.output.trans h.fr.output, Nat.le_trans h.fr.size k.fr.size, fun b hb => (k.fr.block b fun ho => hb (frame_own h ho)).trans (h.fr.block b hb)⟩
  pin := fun i v hi => hρ _ _ (h.pin i v hi)
  m0 := ⟨fun b o v hv => hM.pin _ _ _ (h.m0.pin b o v hv), fun B' hB' => (by
    obtain ⟨B, h1, h2⟩ := hM.bp B' hB'
    rw [hbp] at h1; cases h1), fun j v hv => hv⟩
  mo := fun b o hb => (k.mo b o fun ho => hb (frame_own h ho)).trans (h.mo b o hb)
  sub := k.sub
  blk := fun b => by
    rcases k.blk b with d | d | ⟨v, hv, hB⟩
    · exact .inl d
    · exact .inr (.inl d)
    · exact .inr (.inr ⟨v, hv, hB.lower fun g hg => frame_own h hg⟩)
  inj := k.inj
  bpw := k.bpw
  bpo := fun B' hB' => by
    obtain ⟨B, h1, h2⟩ := hM.bp B' hB'
    rw [hbp] at h1; cases h1
  kp := fun hk => (k.kp hk).trans (h.kp hk)
  mrk := fun cs hm => absurd hm (hmk cs)
  e0 := k.e0
  hpo := rfl

/-- Writes, where the heap of handles is not theirs. -/
def wsH (U : Univ T) (ws : List (Nat × Blk T)) : List (Nat × Blk T) := match U.hm with
  | true => noPL ws
  | false => ws

theorem good_base (hU : UOk U) (hT : ∀ n F, Tb n = some F → SndE P U n F) (R : Rh8 U w0 M0 nt s nid a w ρ M) (h : (opQ P U Tb nid o.op).run s = some c) (hc : c.conds.all id = true) {x : c.X} (hx : c.call = some x) :
    OpOk P o a w (PostH8 U w0 M0 s nid ρ M (c.out x).1 (wsH U (c.out x).2)) := by
  unfold wsH
  cases hm : U.hm with
  | false =>
    refine (good_op hU hT R.rl h hc x hx).imp fun v w' ⟨ρ', M', hρ, hM, hf, hmr, hv⟩ => ?_
    have e : M'.hp = M.hp := hmr.hpo
    have e2 : M0.wh M' = M0.wh M := by unfold Mem.wh; rw [e]
    exact ⟨ρ', M', hρ, hM, hf, e2 ▸ hmr, ⟨fun j v hv => by rw [e]; exact R.hx.le j v hv, fun _ => e.trans (R.hx.off hm), fun h => by rw [hm] at h; cases h⟩, hv⟩
  | true =>
    obtain ⟨cs, hcs, PR⟩ := R.hx.on hm
    have hbp := PR.bp
    have Rb : Rl U (frmB w0 s.blk ρ w) M nt s nid a w ρ M := ⟨frame_in R.mr hbp, R.tm, R.sz, R.df, R.nw⟩
    refine (good_op hU hT Rb h hc x hx).imp fun v w' ⟨ρ', M', hρ, hM, hf, hmr, hv⟩ => ?_
    have hbp' : M'.bp = none := by
      cases hb : M'.bp with
      | none => rfl
      | some B' =>
        obtain ⟨B, h1, _⟩ := hM.bp B' hb
        rw [hbp] at h1; cases h1
    have e : M'.hp = M.hp := hmr.hpo
    have hpl : (s.puts (noPL (c.out x).2)).blk PLB = .mark cs := by rw [blk_noPL, if_pos rfl]; exact hcs
    have mr' : MR U (frmB w0 s.blk ρ w) M (s.puts (noPL (c.out x).2)).blk ρ' M' w' := hmr.env fun b => by
      by_cases eb : b = PLB
      · subst eb
        exact .inr ⟨by decide, .inr ⟨cs, hpl⟩⟩
      · rw [blk_noPL, if_neg eb]; exact .inl rfl
    have hmk : ∀ ds, (s.puts (noPL (c.out x).2)).blk MKB ≠ .mark ds := fun ds hd => by
      have := (mr'.mrk ds hd).2.1
      rw [hbp'] at this; cases this
    have nown : ∀ j c v g, cs[j]? = some c → c.live = true → M.hp j = some v → blockOf v = some g → ¬ (frmB w0 s.blk ρ w).own g := fun j c v g h1 h2 h3 h4 ho => by
      obtain ⟨k1, _⟩ := PR.old j c v g h1 h2 h3 h4
      rcases ho with ho | ⟨p, ho, hp⟩ | ⟨b, vb, l1, l2, l3⟩
      · exact absurd ho (Nat.not_le_of_lt k1)
      · simp [frmB] at ho
      · exact PR.apart j c b v vb g h1 h2 l1 h3 l2 h4 l3
    refine ⟨ρ', M', hρ, hM, hf, frame_out R.mr hbp hρ hM hmk mr', ⟨fun j v hv => by rw [e]; exact R.hx.le j v hv, fun h => (by rw [hm] at h; cases h), fun _ => ⟨cs, hpl, ?_⟩⟩, hv⟩
    refine ⟨fun j c hj => ?_, fun j hj => by rw [e]; exact PR.fresh j hj, fun i j ci cj vi vj g h1 h2 h3 h4 h5 h6 => PR.inj i j ci cj vi vj g h1 h2 h3 h4 (e ▸ h5) (e ▸ h6), fun j c b vj vb g h1 h2 h3 h4 h5 h6 h7 => ?_, hbp', ?_, fun j c v g h1 h2 h3 h4 => ?_⟩
    · rcases PR.cell j c hj with d | ⟨v, hv, hB⟩
      · exact .inl d
      · refine .inr ⟨v, by rw [e]; exact hv, hB.mono (.refl _) hM fun hl g hg => ?_⟩
        have hlc : c.live = true := by cases c <;> first | rfl | cases hl
        have hn := nown j c v g hj hlc hv hg
        exact ⟨mr'.fr.block g hn, fun o => mr'.mo g o hn, fun B' hB' => by rw [hbp'] at hB'; cases hB'⟩
    · exact nown j c vj g h1 h2 (e ▸ h4) h6 (mr'.lt h3 h5 h7).2
    · cases hk : (s.puts (noPL (c.out x).2)).blk MKB <;> first | rfl | exact absurd hk (hmk _)
    · obtain ⟨k1, k2⟩ := PR.old j c v g h1 h2 (e ▸ h3) h4
      exact ⟨Nat.lt_of_lt_of_le k1 mr'.fr.size, k2⟩
end
end Go.Sx
