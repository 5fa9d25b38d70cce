/- An evaluator of the model's code over symbolic values, and its soundness: part 4. No condition. -/
import Derived.Test.YtecniihieninjaaSyE
set_option linter.unusedVariables false
set_option linter.unusedSimpArgs false
namespace Go.Sx
open Go.RowKit
variable {T : Nat → Type} {U : Univ T} {P : Program}

section
variable {w0 : Frm} {M0 : Mem} {nt nid : Nat} {s : St T} {a : Act} {w : World} {ρ : Nat → Option Value} {M : Mem} {c : Step T} {o : Oper} {Tb : Calls_ T}

theorem blk_put1 (s : St T) (b : Nat) (k : Blk T) (b' : Nat) : (s.puts [(b, k)]).blk b' = if b = b' then k else s.blk b' := by
  unfold St.puts St.blk
  simp only [List.singleton_append, look]
  by_cases h : b = b'
  · subst h; simp
  · have : Nat.beq b b' = false := by
      cases hb : Nat.beq b b'
      · rfl
      · exact absurd (Nat.eq_of_beq_eq_true hb) h
    rw [this, if_neg h]

def updR (ρ : Nat → Option Value) (b : Nat) (v : Value) : Nat → Option Value := fun k => if k = b then some v else ρ k
theorem LeR.upd {ρ : Nat → Option Value} {b : Nat} {v : Value} (h : ρ b = none) : LeR ρ (updR ρ b v) := fun k x hk => by
  unfold updR
  split
  · rename_i e; subst e; rw [h] at hk; cases hk
  · exact hk

theorem MR.lt {e : Nat → Blk T} (h : MR U w0 M0 e ρ M w) {b : Nat} {v : Value} {g : Nat} (hl : (e b).live = true) (hv : ρ b = some v) (hg : blockOf v = some g) : g < w.heap.size ∧ w0.own g := by
  rcases h.blk b with d | ⟨_, d⟩ | ⟨v', hv', hB⟩
  · rw [d] at hl; cases hl
  · rw [d] at hl; cases hl
  · rw [hv] at hv'
    cases hv'
    cases hk : e b with
    | dead => rw [hk] at hl; cases hl
    | mark cs => rw [hk] at hl; cases hl
    | cells t cs =>
      rw [hk] at hB
      obtain ⟨g', vs, rfl, hb, hh, _⟩ := hB
      simp only [blockOf, Option.some.injEq] at hg
      subst hg
      exact ⟨(Array.getElem?_eq_some_iff.1 hh).1, hb⟩
    | arr t xs =>
      rw [hk] at hB
      obtain ⟨cl, ho, _, _, hO⟩ := hB
      rcases ho.2 with ⟨rfl, _⟩ | ⟨g', cap, cur, rfl, hb, hh, _⟩
      · cases hg
      · simp only [blockOf, Option.some.injEq] at hg
        subst hg
        exact ⟨(Array.getElem?_eq_some_iff.1 hh).1, hO _ rfl⟩
    | frz t xs => rw [hk] at hl; cases hl

/-- A new block. -/
theorem MR.new (R : Rl U w0 M0 nt s nid a w ρ M) {v : Value} {k : Blk T} {w' : World} (hb : Below w.heap.size w w') (hlt : ∀ g, blockOf v = some g → w.heap.size ≤ g)
    (hk : ∀ ρ', LeR ρ ρ' → BR U w0.own ρ' M w' v k) : MR U w0 M0 (s.puts [(nid, k)]).blk (updR ρ nid v) M w' := by
  have hle : LeR ρ (updR ρ nid v) := LeR.upd (R.nw nid (Nat.le_refl _) (by omega))
  refine R.mr.step (fun b => b = nid) (R.mr.fr.trans hb) hle (.refl _) (R.mr.same_lt fun g hg => hb.block g hg) (fun _ _ _ => rfl) (fun b o v h => ?_) (fun b hb' => ?_) (fun b hb' => ?_) ?_
  · have := R.mr.sub _ _ _ h
    exact (hb.cell (World.block_lt_of_cell? w _ this)).trans this
  · refine ⟨by rw [blk_put1, if_neg (Ne.symm hb')], fun v g hl hv hg => ⟨hb.block g ?_, .refl _ _⟩⟩
    exact (R.mr.lt hl hv hg).1
  · subst hb'
    refine .inr ⟨v, by simp [updR], ?_⟩
    rw [blk_put1, if_pos rfl]
    exact hk _ hle
  · have key : ∀ b v' g, ((s.puts [(nid, k)]).blk b).live = true → updR ρ nid v b = some v' → blockOf v' = some g → (b = nid ∧ w.heap.size ≤ g) ∨ (b ≠ nid ∧ (s.blk b).live = true ∧ ρ b = some v' ∧ g < w.heap.size) := by
      intro b v' g hl hv hg
      rw [blk_put1] at hl
      by_cases e : b = nid
      · refine .inl ⟨e, ?_⟩
        simp [updR, e] at hv
        subst hv
        exact hlt g hg
      · rw [if_neg (Ne.symm e)] at hl
        simp [updR, e] at hv
        exact .inr ⟨e, hl, hv, (R.mr.lt hl hv hg).1⟩
    intro b b' v1 v2 g h1 h2 e1 e2 g1 g2
    rcases key b v1 g h1 e1 g1 with ⟨x, y⟩ | ⟨x, l1, r1, y⟩ <;> rcases key b' v2 g h2 e2 g2 with ⟨x', y'⟩ | ⟨x', l2, r2, y'⟩
    · rw [x, x']
    · omega
    · omega
    · exact R.mr.inj b b' v1 v2 g l1 l2 r1 r2 g1 g2

theorem Post.new (R : Rl U w0 M0 nt s nid a w ρ M) {v x : Value} {k : Blk T} {w' : World} {sv : SV T} (hb : Below w.heap.size w w') (hlt : ∀ g, blockOf v = some g → w.heap.size ≤ g)
    (hk : ∀ ρ', LeR ρ ρ' → BR U w0.own ρ' M w' v k) (hx : VR U (updR ρ nid v) M sv x) : Post U w0 M0 s nid ρ M sv [(nid, k)] x w' :=
  ⟨updR ρ nid v, M, LeR.upd (R.nw nid (Nat.le_refl _) (by omega)), .refl _, fun b h hb => by unfold updR; rw [if_neg (by omega)]; exact hb, MR.new R hb hlt hk, hx⟩

theorem below_push (w : World) (o : Obj) : Below w.heap.size w { w with heap := w.heap.push o } := (Below.refl _ w).alloc (Nat.le_refl _) o

theorem good_box (R : Rl U w0 M0 nt s nid a w ρ M) {t : Nat} {p : Operand} (ho : o.op = .box t p)
    (h : (opQ P U Tb nid (.box t p)).run s = some c) : Good P U w0 M0 s nid ρ M a w o c := by
  simp only [opQ] at h
  obtain ⟨sp, hp, h⟩ := rdO_run h
  obtain ⟨cs, hcs, h⟩ := optQ_run h
  simp only [RQ.run, Option.some.injEq] at h
  subst h
  have hc := (hp.vr R).cells? hcs
  intro _ _ _
  refine .val (v := .pointer (some ⟨w.heap.size, 0, none⟩)) (w' := { w with heap := w.heap.push (.cells (a.eval p).cells t) }) ?_ ?_
  · simp only [execOp, ho]
    exact run_v (by simp [Instr.box, newVar, newRow, newObj, Sem.run])
  · refine Post.new R (v := .pointer (some ⟨w.heap.size, 0, none⟩)) (below_push w _) (fun g hg => by simp [blockOf] at hg; omega) (fun ρ' hρ => ?_) (.ptr _ _ _ (by simp [updR]))
    exact ⟨_, (a.eval p).cells, rfl, .inl R.mr.fr.size, by simp, hc.mono hρ (.refl _), R.mr.fresh (Nat.le_refl _)⟩

theorem zero_run {t : Nat} {cs : List (SV T)} (h : zeroC P t = some cs) : ∃ i z, P.info? t = some i ∧ i.zero = some z ∧ cs = z.cells.toList.map .v ∧ ∀ v ∈ z.cells.toList, v.oneCell' = true := by
  unfold zeroC at h
  cases hi : P.info? t with
  | none => simp [hi] at h
  | some i =>
    cases hz : i.zero with
    | none => simp [hi, hz] at h
    | some z =>
      simp only [hi, hz, Option.map_some] at h
      split at h
      · rename_i ha
        simp only [Option.some.injEq] at h
        exact ⟨i, z, rfl, hz, h.symm, by simpa using List.all_eq_true.1 ha⟩
      · cases h

theorem CR.map_v (vs : List Value) (h : ∀ v ∈ vs, v.oneCell' = true) : CR U ρ M (vs.map (SV.v (T := T))) vs :=
  ⟨by simp, h, fun i h1 h2 => by simp only [List.getElem_map]; exact .v _⟩

theorem good_alloc (R : Rl U w0 M0 nt s nid a w ρ M) {t : Nat} (ho : o.op = .alloc t)
    (h : (opQ P U Tb nid (.alloc t)).run s = some c) : Good P U w0 M0 s nid ρ M a w o c := by
  simp only [opQ] at h
  obtain ⟨cs, hcs, h⟩ := optQ_run h
  simp only [RQ.run, Option.some.injEq] at h
  subst h
  obtain ⟨i, z, hi, hz, rfl, h1⟩ := zero_run hcs
  intro _ _ _
  refine .val (v := .pointer (some ⟨w.heap.size, 0, none⟩)) (w' := { w with heap := w.heap.push (.cells z.cells t) }) ?_ ?_
  · simp only [execOp, ho]
    exact run_v (by simp [Instr.alloc, zeroValue, typeInfo, program, hi, hz, newVar, newRow, newObj, Sem.run])
  · refine Post.new R (v := .pointer (some ⟨w.heap.size, 0, none⟩)) (below_push w _) (fun g hg => by simp [blockOf] at hg; omega) (fun ρ' hρ => ?_) (.ptr _ _ _ (by simp [updR]))
    exact ⟨_, z.cells, rfl, .inl R.mr.fr.size, by simp, CR.map_v _ h1, R.mr.fresh (Nat.le_refl _)⟩

theorem good_pick (R : Rl U w0 M0 nt s nid a w ρ M) {x y z : Operand} (ho : o.op = .pick x y z)
    (h : (opQ P U Tb nid (.pick x y z)).run s = some c) : Good P U w0 M0 s nid ρ M a w o c := by
  simp only [opQ] at h
  obtain ⟨sx, hx, h⟩ := rdO_run h
  have vx := hx.vr R
  split at h
  · rename_i g
    generalize hxe : a.eval x = xv at vx
    cases vx
    cases g <;> simp only at h
    · obtain ⟨sy, hy, h⟩ := rdO_run h
      simp only [RQ.run, Option.some.injEq] at h
      subst h
      exact .now R (v := a.eval z) (by simp [execOp, ho, hxe, asBool]) (hy.vr R)
    · obtain ⟨sy, hy, h⟩ := rdO_run h
      simp only [RQ.run, Option.some.injEq] at h
      subst h
      exact .now R (v := a.eval y) (by simp [execOp, ho, hxe, asBool]) (hy.vr R)
  · simp [RQ.run] at h

theorem good_unOp (R : Rl U w0 M0 nt s nid a w ρ M) {op : UnOp} {t : Nat} {x : Operand} (ho : o.op = .unOp op t x)
    (h : (opQ P U Tb nid (.unOp op t x)).run s = some c) : Good P U w0 M0 s nid ρ M a w o c := by
  simp only [opQ] at h
  obtain ⟨sx, hx, h⟩ := rdO_run h
  have vx := hx.vr R
  split at h
  · generalize hxe : a.eval x = xv at vx
    cases vx
    obtain ⟨v, hv, rfl⟩ := pv_run h
    exact .now R (v := v) (by simp only [execOp, ho, hxe]; exact run_v (hv w)) (.v _)
  · simp [RQ.run] at h

theorem good_nilCheck (R : Rl U w0 M0 nt s nid a w ρ M) {x : Operand} (ho : o.op = .nilCheck x)
    (h : (opQ P U Tb nid (.nilCheck x)).run s = some c) : Good P U w0 M0 s nid ρ M a w o c := by
  simp only [opQ] at h
  obtain ⟨sx, hx, h⟩ := rdO_run h
  have vx := hx.vr R
  split at h <;> (try simp [RQ.run] at h) <;> (try subst h) <;> (generalize hxe : a.eval x = xv at vx)
  · refine .now R (v := xv) ?_ vx
    cases vx; simp [execOp, ho, hxe]
  · refine .now R (v := xv) ?_ vx
    cases vx; simp [execOp, ho, hxe]
  · refine .now R (v := xv) ?_ vx
    cases vx; simp [execOp, ho, hxe]
  · refine .now R (v := xv) ?_ vx
    cases vx; simp [execOp, ho, hxe]
  · refine .now R (v := xv) ?_ vx
    cases vx; simp [execOp, ho, hxe]

theorem field_run {st f off ft : Nat} (h : fieldOf P st f = some (off, ft)) : ∃ fs fl, P.underlying st = some (.struct fs) ∧ fs[f]? = some fl ∧ fl.offset = off ∧ fl.type = ft := by
  unfold fieldOf at h
  split at h
  · rename_i fs hu
    split at h
    · rename_i fl hf
      simp only [Option.some.injEq, Prod.mk.injEq] at h
      exact ⟨fs, fl, hu, hf, h.1, h.2⟩
    · cases h
  · cases h

theorem szOf_run {t n : Nat} (h : szOf P t = some n) : ∃ i, P.info? t = some i ∧ i.size = n := by
  unfold szOf at h
  cases hi : P.info? t with
  | none => simp [hi] at h
  | some i => exact ⟨i, rfl, by simpa [hi] using h⟩

theorem good_fieldAddr (R : Rl U w0 M0 nt s nid a w ρ M) {st f : Nat} {p : Operand} (ho : o.op = .fieldAddr st p f)
    (h : (opQ P U Tb nid (.fieldAddr st p f)).run s = some c) : Good P U w0 M0 s nid ρ M a w o c := by
  simp only [opQ] at h
  obtain ⟨sp, hp, h⟩ := rdO_run h
  have vp := hp.vr R
  split at h
  · rename_i off ft hf
    split at h
    · rename_i n hn
      obtain ⟨sv, hs, h⟩ := optQ_run h
      simp only [RQ.run, Option.some.injEq] at h
      subst h
      obtain ⟨fs, fl, hu, hfl, rfl, rfl⟩ := field_run hf
      obtain ⟨i, hi, hsz⟩ := szOf_run hn
      have run : ∀ ad, a.eval p = .pointer (some ad) → (execOp a.eval o).run P w = .ok (.value (.pointer (some (ad.add fl.offset)))) w := by
        intro ad hv
        simp only [execOp, ho, hv]
        exact run_v (by simp [Instr.fieldAt, run_underlying hu, hfl, Instr.sureAddr, fieldPlace, sizeOf, typeInfo, program, hi, hsz, Sem.run])
      generalize hpe : a.eval p = pv at vp run
      cases vp with
      | ptr b g off' hρ =>
        simp only [addOff, Option.some.injEq] at hs
        subst hs
        refine .now R (run _ rfl) ?_
        rw [add_at]
        exact .ptr _ _ _ hρ
      | eptr b g n' cp t i' off' hρ =>
        simp only [addOff, Option.some.injEq] at hs
        subst hs
        refine .now R (run _ rfl) ?_
        rw [add_at, Nat.add_assoc]
        exact .eptr _ _ _ _ _ _ _ hρ
      | rptr t xs i' off' g o' f' h0 h1 hm hf' hv =>
        simp only [addOff, Option.some.injEq] at hs
        subst hs
        refine .now R (run _ rfl) ?_
        rw [add_at, Nat.add_assoc]
        exact .rptr _ _ _ _ _ _ _ h0 h1 hm hf' hv
      | hptr j g n' cp t i' off' hρ =>
        simp only [addOff, Option.some.injEq] at hs
        subst hs
        refine .now R (run _ rfl) ?_
        rw [add_at, Nat.add_assoc]
        exact .hptr _ _ _ _ _ _ _ hρ
      | _ => simp [addOff] at hs
    · simp [RQ.run] at h
  · simp [RQ.run] at h
end
end Go.Sx
