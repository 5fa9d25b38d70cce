/- An evaluator of the model's code over symbolic values, and its soundness: part 2. No condition. -/
import Derived.Test.YtecniihieninjaaSyC
import Derived.Laws.StructEq
set_option linter.unusedVariables false
set_option linter.unusedSimpArgs false
namespace Go.Sx
open Go.RowKit
variable {T : Nat → Type} {U : Univ T} {P : Program}

structure Rl (U : Univ T) (w0 : Frm) (M0 : Mem) (nt : Nat) (s : St T) (nid : Nat) (a : Act) (w : World) (ρ : Nat → Option Value) (M : Mem) : Prop where
  mr : MR U w0 M0 s.blk ρ M w
  tm : ∀ t, VR U ρ M (s.get t) (a.tmps.getD t undef)
  sz : a.tmps.size = nt
  df : a.defers = []
  nw : ∀ b, nid ≤ b → b < nid + 8 → ρ b = none

def Post (U : Univ T) (w0 : Frm) (M0 : Mem) (s : St T) (nid : Nat) (ρ : Nat → Option Value) (M : Mem) (x : SV T) (ws : List (Nat × Blk T)) (v : Value) (w' : World) : Prop :=
  ∃ ρ' M', LeR ρ ρ' ∧ LeM M M' ∧ (∀ b, ¬ (nid ≤ b ∧ b < nid + 8) → ρ b = none → ρ' b = none) ∧ MR U w0 M0 (s.puts ws).blk ρ' M' w' ∧ VR U ρ' M' x v

def OpOk (P : Program) (o : Oper) (a : Act) (w : World) (Q : Value → World → Prop) : Prop :=
  (∃ v w', (execOp a.eval o).run P w = .ok (.value v) w' ∧ Q v w') ∨ (∃ w', (execOp a.eval o).run P w = .ok .skip w' ∧ Q undef w') ∨
  (∃ f args, (execOp a.eval o).run P w = .ok (.enter f args) w ∧ Calls P f args w fun e w' => ∃ v, e = .returned v ∧ Q v w')

theorem OpOk.wp {o : Oper} {a : Act} {w : World} {Q : Value → World → Prop} {K : Act → World → Prop} {Q' : Exit → Act → World → Prop}
    (h : OpOk P o a w Q) (hk : ∀ v w', Q v w' → K (a.put o.dst v) w') : o.wp P a w K Q' := by
  rcases h with ⟨v, w', hr, hq⟩ | ⟨w', hr, hq⟩ | ⟨f, args, hr, hc⟩
  · simp only [Oper.wp, hr, Oper.upon]; exact hk _ _ hq
  · simp only [Oper.wp, hr, Oper.upon]; exact hk _ _ hq
  · simp only [Oper.wp, hr, Oper.upon]
    refine hc.mono ?_
    rintro e w' ⟨v, rfl, hq⟩
    exact hk _ _ hq

theorem OpOk.val {o : Oper} {a : Act} {w w' : World} {Q : Value → World → Prop} {v : Value} (h : (execOp a.eval o).run P w = .ok (.value v) w') (hq : Q v w') : OpOk P o a w Q := .inl ⟨v, w', h, hq⟩

theorem pureRun_run {α : Type} (s : Sem α) {x : α} (h : pureRun P s = some x) (w : World) : s.run P w = .ok x w := by
  induction s with
  | pure a => simp only [pureRun, Option.some.injEq] at h; subst h; rfl
  | program k ih => simp only [pureRun] at h; simp only [Sem.run]; exact ih P h
  | _ => simp [pureRun] at h

theorem run_v {s : Sem Value} {v : Value} {w w' : World} (h : s.run P w = .ok v w') : (do pure (Next.value (← s)) : Sem Next).run P w = .ok (.value v) w' := by
  simp [h]

section
variable {w0 : Frm} {M0 : Mem} {nt nid : Nat} {s : St T} {a : Act} {w : World} {ρ : Nat → Option Value} {M : Mem} {α : Type 1} {r : α}

def OpdR (x : Operand) (s : St T) (sv : SV T) : Prop := match x with
  | .tmp t => sv = s.get t
  | .const v => sv = cst v
  | .func f => sv = .v (.func (.func f) #[] #[])
  | .global _ => False

theorem rdO_run {x : Operand} {k : SV T → RQ T α} (h : (rdO x k).run s = some r) : ∃ sv, OpdR x s sv ∧ (k sv).run s = some r := by
  cases x <;> simp only [rdO, RQ.run] at h
  · exact ⟨_, rfl, h⟩
  · exact ⟨_, rfl, h⟩
  · simp at h
  · exact ⟨_, rfl, h⟩

theorem cst_vr (v : Value) : VR U ρ M (cst v) v := by
  unfold cst
  split
  · rename_i cs
    split
    · rename_i hc
      have := VR.agg (U := U) (ρ := ρ) (M := M) (cs.toList.map .v) cs.toList (by simp) (by simpa [Array.mem_iff_getElem] using List.all_eq_true.1 hc) (fun i h1 h2 => by simp only [List.getElem_map]; exact .v _)
      simpa using this
    · exact .any _
  · exact .v _

theorem OpdR.vr {x : Operand} {sv : SV T} (h : OpdR x s sv) (R : Rl U w0 M0 nt s nid a w ρ M) : VR U ρ M sv (a.eval x) := by
  cases x with
  | tmp t => simp only [OpdR] at h; subst h; exact R.tm t
  | const v => simp only [OpdR] at h; subst h; exact cst_vr v
  | global g => exact h.elim
  | func f => simp only [OpdR] at h; subst h; exact .v _

theorem optQ_run {β : Type} {x : Option β} {k : β → RQ T α} (h : (optQ x k).run s = some r) : ∃ b, x = some b ∧ (k b).run s = some r := by
  cases x with
  | none => simp [optQ, RQ.run] at h
  | some b => exact ⟨b, rfl, h⟩

theorem Post.same (R : Rl U w0 M0 nt s nid a w ρ M) {x : SV T} {v : Value} (h : VR U ρ M x v) : Post U w0 M0 s nid ρ M x [] v w :=
  ⟨ρ, M, .refl _, .refl _, fun _ _ h => h, R.mr, h⟩

theorem pv_run {c : Step T} {sm : Sem Value} (h : (pv P sm).run s = some c) : ∃ v, (∀ w, sm.run P w = .ok v w) ∧ c = .now (.v v) := by
  unfold pv at h
  split at h
  · rename_i v hv
    simp only [RQ.run, Option.some.injEq] at h
    exact ⟨v, pureRun_run sm hv, h.symm⟩
  · simp [RQ.run] at h

/-- What an operation must do. -/
def Good (P : Program) (U : Univ T) (w0 : Frm) (M0 : Mem) (s : St T) (nid : Nat) (ρ : Nat → Option Value) (M : Mem) (a : Act) (w : World) (o : Oper) (c : Step T) : Prop :=
  c.conds.all id = true → ∀ x, c.call = some x → OpOk P o a w (Post U w0 M0 s nid ρ M (c.out x).1 (c.out x).2)

theorem Good.now (R : Rl U w0 M0 nt s nid a w ρ M) {o : Oper} {x : SV T} {v : Value} (hr : (execOp a.eval o).run P w = .ok (.value v) w) (h : VR U ρ M x v) : Good P U w0 M0 s nid ρ M a w o (.now x) :=
  fun _ _ _ => .val hr (Post.same R h)

theorem good_move (R : Rl U w0 M0 nt s nid a w ρ M) {o : Oper} {x : Operand} (ho : o.op = .move x ∨ o.op = .assign x) {c : Step T}
    (h : (rdO x fun s => .pure (.now s) : RQ T (Step T)).run s = some c) : Good P U w0 M0 s nid ρ M a w o c := by
  obtain ⟨sv, hs, h⟩ := rdO_run h
  simp only [RQ.run, Option.some.injEq] at h
  subst h
  refine .now R (v := a.eval x) ?_ (hs.vr R)
  rcases ho with ho | ho <;> simp [execOp, ho]

theorem part_v {t off : Nat} {xs : List (SV T)} {vs : List Value} {x : Value} (hc : CR U ρ M xs vs) (h : xs[off]? = some (.v x)) (hu : ∃ d, P.underlying t = some d ∧ (match d with | .int _ | .bool | .string => True | _ => False)) :
    (part t vs.toArray off).run P w = .ok x w := by
  obtain ⟨v, hv, _, hvr⟩ := hc.get h
  cases hvr
  obtain ⟨d, hd, hk⟩ := hu
  have : (isAgg t).run P w = .ok false w := by
    unfold isAgg
    rw [Sem.run_bind, run_underlying hd w]
    cases d <;> simp at hk <;> rfl
  simp [part, this, hv]

theorem eqC_run {xs ys : List (SV T)} {vs us : List Value} (hx : CR U ρ M xs vs) (hy : CR U ρ M ys us) (d : Nat) : ∀ {fs : List Field} {b : Bool}, eqC P xs ys fs = some b →
    (Op.eqFields (d + 1) vs.toArray us.toArray fs).run P w = .ok b w
  | [], b, h => by
    simp only [eqC, Option.some.injEq] at h
    subst h
    rfl
  | f :: fs, b, h => by
    simp only [eqC] at h
    split at h
    · cases h
    · rename_i hname
      have hname' : f.name ≠ "_" := by simpa using hname
      split at h
      · rename_i k i k' j kk r e1 e2 hu hr
        split at h
        · rename_i hk
          subst hk
          simp only [Option.some.injEq] at h
          subst h
          have ih := eqC_run hx hy d hr
          have p1 := part_v (P := P) (w := w) hx e1 ⟨_, hu, trivial⟩
          have p2 := part_v (P := P) (w := w) hy e2 ⟨_, hu, trivial⟩
          simp only [Op.eqFields, hname', ne_eq, not_false_eq_true, if_true, Sem.run_bind, p1, p2, Result.andThen_ok, run_equalIn_int w d f.type k kk i j hu]
          cases hij : (i == j) <;> simp [ih]
        · cases h
      · rename_i i j r e1 e2 hu hr
        simp only [Option.some.injEq] at h
        subst h
        have ih := eqC_run hx hy d hr
        have p1 := part_v (P := P) (w := w) hx e1 ⟨_, hu, trivial⟩
        have p2 := part_v (P := P) (w := w) hy e2 ⟨_, hu, trivial⟩
        simp only [Op.eqFields, hname', ne_eq, not_false_eq_true, if_true, Sem.run_bind, p1, p2, Result.andThen_ok, run_equalIn_bool' w d f.type i j hu]
        cases hij : (i == j) <;> simp [ih]
      · rename_i i j r e1 e2 hu hr
        simp only [Option.some.injEq] at h
        subst h
        have ih := eqC_run hx hy d hr
        have p1 := part_v (P := P) (w := w) hx e1 ⟨_, hu, trivial⟩
        have p2 := part_v (P := P) (w := w) hy e2 ⟨_, hu, trivial⟩
        simp only [Op.eqFields, hname', ne_eq, not_false_eq_true, if_true, Sem.run_bind, p1, p2, Result.andThen_ok, run_equalIn_string w d f.type i j hu]
        cases hij : (i.toList == j.toList) <;> simp [ih]
      · cases h

theorem good_binOp (R : Rl U w0 M0 nt s nid a w ρ M) {o : Oper} {op : BinOp} {t ty : Nat} {x y : Operand} (ho : o.op = .binOp op t x y ty) {c : Step T} {Tb : Calls_ T}
    (h : (opQ P U Tb nid (.binOp op t x y ty)).run s = some c) : Good P U w0 M0 s nid ρ M a w o c := by
  simp only [opQ] at h
  obtain ⟨sx, hx, h⟩ := rdO_run h
  obtain ⟨sy, hy, h⟩ := rdO_run h
  have vx := hx.vr R
  have vy := hy.vr R
  have run : ∀ v, (∀ w, (do eqGuard op t x y (a.eval x) (a.eval y); Go.binOp op t (a.eval x) (a.eval y) : Sem Value).run P w = .ok v w) → (execOp a.eval o).run P w = .ok (.value v) w := by
    intro v hv
    simp only [execOp, ho]
    exact run_v (hv w)
  split at h
  · -- ints
    rename_i k i k' j _
    cases hvx : a.eval x <;> rw [hvx] at vx <;> cases vx
    cases hvy : a.eval y <;> rw [hvy] at vy <;> cases vy
    rw [hvx, hvy] at run
    split at h
    · split at h
      · rename_i hk
        subst hk
        simp only [RQ.run, Option.some.injEq] at h
        subst h
        intro hc _ _
        have hj : j ≠ 0 := by simpa [Step.if_] using hc
        exact .val (run (.int k (k.wrap (i.tdiv j))) (fun w => by simp [eqGuard, Go.binOp, Op.intDiv, hj])) (Post.same R (.v _))
      · simp [RQ.run] at h
    · split at h
      · rename_i hk
        subst hk
        simp only [RQ.run, Option.some.injEq] at h
        subst h
        intro hc _ _
        have hj : j ≠ 0 := by simpa [Step.if_] using hc
        exact .val (run (.int k (i.tmod j)) (fun w => by simp [eqGuard, Go.binOp, Op.intDiv, hj])) (Post.same R (.v _))
      · simp [RQ.run] at h
    · simp only [RQ.run, Option.some.injEq] at h
      subst h
      intro hc _ _
      have hj : ¬ j < 0 := by simpa [Step.if_] using hc
      exact .val (run (.int k (shl_ k i j)) (fun w => by simp [eqGuard, Go.binOp, Op.shift, hj, shl_])) (Post.same R (.v _))
    · simp only [RQ.run, Option.some.injEq] at h
      subst h
      intro hc _ _
      have hj : ¬ j < 0 := by simpa [Step.if_] using hc
      exact .val (run (.int k (shr_ k i j)) (fun w => by simp [eqGuard, Go.binOp, Op.shift, hj, shr_])) (Post.same R (.v _))
    · split at h
      · rename_i hk
        subst hk
        simp only [RQ.run, Option.some.injEq] at h
        subst h
        exact .now R (run (.int k (and_ k i j)) (fun w => by simp [eqGuard, Go.binOp, Op.intBits, and_])) (.v _)
      · simp [RQ.run] at h
    · split at h
      · rename_i hk
        subst hk
        simp only [RQ.run, Option.some.injEq] at h
        subst h
        exact .now R (run (.int k (or_ k i j)) (fun w => by simp [eqGuard, Go.binOp, Op.intBits, or_])) (.v _)
      · simp [RQ.run] at h
    · split at h
      · rename_i hk
        subst hk
        simp only [RQ.run, Option.some.injEq] at h
        subst h
        exact .now R (run (.int k (xor_ k i j)) (fun w => by simp [eqGuard, Go.binOp, Op.intBits, xor_])) (.v _)
      · simp [RQ.run] at h
    · split at h
      · rename_i hk
        subst hk
        simp only [RQ.run, Option.some.injEq] at h
        subst h
        exact .now R (run (.int k (andn_ k i j)) (fun w => by simp [eqGuard, Go.binOp, Op.intBits, andn_])) (.v _)
      · simp [RQ.run] at h
    · obtain ⟨v, hv, rfl⟩ := pv_run h
      exact .now R (run v hv) (.v _)
  · rename_i i j _
    cases hvx : a.eval x <;> rw [hvx] at vx <;> cases vx
    cases hvy : a.eval y <;> rw [hvy] at vy <;> cases vy
    rw [hvx, hvy] at run
    split at h
    · simp only [RQ.run, Option.some.injEq] at h
      subst h
      intro hc _ _
      have hj : i.size + j.size ≤ 9223372036854775807 := by simpa [Step.if_] using hc
      refine .val (run (.string (i ++ j)) (fun w => ?_)) (Post.same R (.v _))
      have : ¬ (((i.size + j.size : Nat) : Int) > IntKind.i64.max) := by
        have : IntKind.i64.max = 9223372036854775807 := by decide
        omega
      simp only [eqGuard, Go.binOp, Op.stringOp]
      rw [if_neg this]
      simp
    · obtain ⟨v, hv, rfl⟩ := pv_run h
      exact .now R (run v hv) (.v _)
  · obtain ⟨v, hv, rfl⟩ := pv_run h
    cases vx
    cases vy
    exact .now R (run v hv) (.v _)
  · rename_i xs ys _ _ _
    split at h
    · rename_i fs hu
      split at h
      · simp [RQ.run] at h
      · rename_i hchk
        obtain ⟨b, hb, h⟩ := optQ_run h
        have hst : P.stoodInHeld t = false := by cases hs : P.stoodInHeld t <;> simp_all
        have hg : P.eqGuardType P.depth t = false := by cases hs : P.eqGuardType P.depth t <;> simp_all
        generalize hvx : a.eval x = xv at vx run
        generalize hvy : a.eval y = yv at vy run
        cases vx with
        | agg _ vs hl hf hv =>
          cases vy with
          | agg _ us hl' hf' hv' =>
            have hfo : P.fieldsOf t = fs := by simp [Program.fieldsOf, hu]
            have heq : ∀ w, (Op.equalIn 10000 t (.agg vs.toArray) (.agg us.toArray)).run P w = .ok b w := fun w => by
              rw [run_equalIn_struct w 9999 t _ _ (by rw [hfo]; exact hu) hst, hfo]
              exact eqC_run (w := w) ⟨hl, hf, hv⟩ ⟨hl', hf', hv'⟩ 9998 hb
            split at h
            · simp only [RQ.run, Option.some.injEq] at h
              subst h
              refine .now R (run (.bool b) fun w => ?_) (.v _)
              rw [Sem.run_bind, run_eqGuard_agg w _ _ _ _ _ _ hg, Result.andThen_ok, run_eql_struct, heq]
              rfl
            · simp only [RQ.run, Option.some.injEq] at h
              subst h
              refine .now R (run (.bool (!b)) fun w => ?_) (.v _)
              rw [Sem.run_bind, run_eqGuard_agg w _ _ _ _ _ _ hg, Result.andThen_ok, run_neq_struct, heq]
              rfl
            · simp [RQ.run] at h
    · simp [RQ.run] at h
  · simp [RQ.run] at h
end
end Go.Sx
