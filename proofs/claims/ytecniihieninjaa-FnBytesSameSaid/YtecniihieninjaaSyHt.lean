/- An evaluator of the model's code over symbolic values, and its soundness: part 19. No condition. -/
import Derived.Test.YtecniihieninjaaSyHs
set_option linter.unusedVariables false
set_option linter.unusedSimpArgs false
namespace Go.Sx
open Go.RowKit
variable {T : Nat → Type} {U : Univ T} {P : Program}

section
variable {w0 : Frm} {M0 : Mem} {nt nid : Nat} {s : St T} {a : Act} {w : World} {ρ ρ' : Nat → Option Value} {M : Mem} {c : Step T} {o : Oper} {Tb : Calls_ T} {α : Type 1} {r : α}

theorem MR.hpx {e : Nat → Blk T} (h : MR U w0 (M0.wh M) e ρ M w) {hp' : Nat → Option Value} (hn : ∀ j v, M.hp j = some v → hp' j = some v) : MR U w0 (M0.wh ⟨M.pin, M.bp, hp'⟩) e ρ ⟨M.pin, M.bp, hp'⟩ w where
  fr := h.fr
  pin := h.pin
  m0 := ⟨h.m0.pin, h.m0.bp, fun _ _ h => h⟩
  mo := h.mo
  sub := h.sub
  blk := fun b => by
    rcases h.blk b with d | d | ⟨v1, hv1, hB⟩
    · exact .inl d
    · exact .inr (.inl d)
    · exact .inr (.inr ⟨v1, hv1, BR.mono (M := M) (M' := ⟨M.pin, M.bp, hp'⟩) (.refl _) ⟨fun _ _ _ h => h, fun B hB => ⟨B, hB, fun _ _ h => h⟩, hn⟩ hB fun _ g _ => ⟨rfl, fun _ => rfl, fun B hB => ⟨B, hB, rfl⟩⟩⟩)
  inj := h.inj
  bpw := h.bpw
  bpo := h.bpo
  kp := h.kp
  mrk := h.mrk
  e0 := h.e0
  hpo := rfl

/-- After a call that was lent the heap. -/
theorem ansP_post (R : Rh8 U w0 M0 nt s nid a w ρ M) (hm : U.hm = true) {cs cs' : List (Cell T)} (hcs : s.blk PLB = .mark cs) {us : List Value} {ks : List (Blk T)} {sv : SV T} {v : Value} {w' : World} {M' : Mem} (A : AnsP U w us M cs sv cs' ks v w' M') {L : List (Nat × Blk T)}
    (hL : (L = [] ∧ us = []) ∨ ∃ b u k', L = [(b, k')] ∧ us = [u] ∧ ks = [k'] ∧ ρ b = some u ∧ (s.blk b).live = true ∧ b ≠ PLB ∧ b ≠ MKB) : PostH U w0 M0 s nid ρ M sv ((PLB, .mark cs') :: L) v w' := by
  obtain ⟨cs1, e, PR⟩ := R.hx.on hm
  rw [hcs] at e
  cases e
  have hup : ∀ g, (frmP w us M cs).own g → w0.own g := by
    rintro g (h1 | ⟨u, h1, h2⟩ | ⟨j, c, u, h1, h2, h3, h4⟩)
    · exact .inl (Nat.le_trans R.mr.fr.size h1)
    · rcases hL with ⟨_, rfl⟩ | ⟨b, u', k', _, rfl, _, hρ, hl, _⟩
      · simp [frmP] at h1
      · simp only [frmP, List.mem_singleton] at h1
        subst h1
        exact (R.mr.lt hl hρ h2).2
    · exact (PR.old j c u g h1 h2 h3 h4).2
  have hno : ∀ g, ¬ w0.own g → ¬ (frmP w us M cs).own g := fun g h k => h (hup g k)
  have hfr : Fr w0 w' := ⟨A.fr.os.trans R.mr.fr.os, A.fr.tape.trans R.mr.fr.tape, A.fr.output.trans R.mr.fr.output, Nat.le_trans R.mr.fr.size A.fr.size, fun g hg => (A.fr.block g (hno g hg)).trans (R.mr.fr.block g hg)⟩
  have mr1 : MR U w0 (M0.wh ⟨M.pin, M.bp, M'.hp⟩) s.blk ρ ⟨M.pin, M.bp, M'.hp⟩ w := R.mr.hpx A.le.hp
  have hle1 : LeM ⟨M.pin, M.bp, M'.hp⟩ M' := ⟨A.le.pin, fun B hB => (by rw [A.bp] at hB; cases hB), fun _ _ h => h⟩
  have hbs : BpS U w0 ⟨M.pin, M.bp, M'.hp⟩ M' w' := ⟨BpOk.none_ A.bp, fun B hB => (by rw [A.bp] at hB; cases hB), (by rw [A.bp]; show _ = M.bp.isSome; rw [PR.bp]), rfl⟩
  have far : ∀ b u g, (s.blk b).live = true → ρ b = some u → blockOf u = some g → (∀ p ∈ L, p.1 ≠ b) → ¬ (frmP w us M cs).own g := by
    rintro b u g h1 h2 h3 h4 (k1 | ⟨u', k1, k2⟩ | ⟨j, c, u', k1, k2, k3, k4⟩)
    · exact absurd k1 (Nat.not_le_of_lt (R.mr.lt h1 h2 h3).1)
    · rcases hL with ⟨_, rfl⟩ | ⟨b', u2, k', rfl, rfl, _, hρ, hl, _⟩
      · simp [frmP] at k1
      · simp only [frmP, List.mem_singleton] at k1
        subst k1
        exact h4 (b', k') (by simp) (R.mr.inj b' b u' u g hl h1 hρ h2 k2 h3)
    · exact PR.apart j c b u' u g k1 k2 h1 k3 h2 k4 h3
  have hnL : ∀ b, (∀ p ∈ L, p.1 ≠ b) → (s.puts L).blk b = s.blk b := fun b h => puts_not s b L h
  have liv : ∀ b, ((s.puts L).blk b).live = true → (s.blk b).live = true := by
    intro b h
    by_cases k : ∀ p ∈ L, p.1 ≠ b
    · rw [hnL b k] at h; exact h
    · rcases hL with ⟨rfl, _⟩ | ⟨b', u2, k', rfl, rfl, _, hρ, hl, _⟩
      · exact absurd (by simp) k
      · simp only [List.mem_singleton, forall_eq] at k
        have : b' = b := Classical.not_not.1 k
        rw [← this]; exact hl
  have m2 : MR U w0 (M0.wh M') (s.puts L).blk ρ M' w' := by
    refine mr1.step (fun b => ∃ p ∈ L, p.1 = b) hfr (.refl _) hle1 hbs (fun b o hb => A.old b o (hno b hb)) A.sub (fun b hb => ⟨hnL b fun p hp e => hb ⟨p, hp, e⟩, fun u g h1 h2 h3 => ?_⟩) (fun b hb => ?_) (fun b b' u u' g h1 h2 => R.mr.inj b b' u u' g (liv b h1) (liv b' h2))
    · have := far b u g h1 h2 h3 fun p hp e => hb ⟨p, hp, e⟩
      exact ⟨A.fr.block g this, fun o => A.old g o this, fun B hB => by rw [A.bp] at hB; cases hB⟩
    · obtain ⟨p, hp, rfl⟩ := hb
      rcases hL with ⟨rfl, _⟩ | ⟨b', u2, k', rfl, rfl, hks, hρ, hl, _⟩
      · simp at hp
      · simp only [List.mem_singleton] at hp
        subst hp
        obtain ⟨k2, e2, _, hB, _⟩ := A.lent u2 rfl
        rw [hks] at e2
        cases e2
        refine .inr ⟨u2, hρ, ?_⟩
        rw [blk_cons, if_pos rfl]
        exact (hB.lower hup).mono (fun _ _ h => by cases h) (.refl _) fun _ g _ => ⟨rfl, .refl _ _⟩
  have pl : ∀ b, (s.puts ((PLB, .mark cs') :: L)).blk b = if PLB = b then .mark cs' else (s.puts L).blk b := blk_cons s _ _ L
  have mk : (s.puts L).blk MKB = s.blk MKB := hnL MKB fun p hp => by
    rcases hL with ⟨rfl, _⟩ | ⟨b', u2, k', rfl, rfl, hks, hρ, hl, _, h⟩
    · simp at hp
    · simp only [List.mem_singleton] at hp
      subst hp
      exact h
  refine ⟨ρ, M', .refl _, A.le, fun _ _ h => h, m2.env fun b => ?_, ⟨fun j u hj => A.le.hp _ _ (R.hx.le j u hj), fun h => (by rw [hm] at h; cases h), fun _ => ⟨cs', by rw [pl, if_pos rfl], ⟨fun j c hj => ?_, A.pool.fresh, A.pool.inj, fun j c b vj vb g h1 h2 h3 h4 h5 h6 h7 => ?_, A.bp, ?_, fun j c u g h1 h2 h3 h4 => ⟨(A.pool.old j c u g h1 h2 h3 h4).1, hup g (A.pool.old j c u g h1 h2 h3 h4).2⟩⟩⟩⟩, A.vr.mono (fun _ _ h => by cases h) (.refl _)⟩
  · rw [pl]
    by_cases k : PLB = b
    · subst k; rw [if_pos rfl]; exact .inr ⟨by decide, .inr ⟨_, rfl⟩⟩
    · rw [if_neg k]; exact .inl rfl
  · exact (A.pool.cell j c hj).imp id fun ⟨u, k1, k2⟩ => ⟨u, k1, k2.lower hup⟩
  · rw [pl] at h3
    by_cases k : PLB = b
    · rw [if_pos k] at h3; cases h3
    rw [if_neg k] at h3
    by_cases k2 : ∀ p ∈ L, p.1 ≠ b
    · exact far b vb g (liv b h3) h5 h7 k2 (A.pool.old j c vj g h1 h2 h4 h6).2
    · rcases hL with ⟨rfl, _⟩ | ⟨b', u2, k', rfl, rfl, hks, hρ, hl, _⟩
      · exact k2 (by simp)
      · simp only [List.mem_singleton, forall_eq] at k2
        have : b' = b := Classical.not_not.1 k2
        subst this
        rw [hρ] at h5
        cases h5
        obtain ⟨_, _, _, _, h8⟩ := A.lent _ rfl
        exact h8 g h7 ⟨j, c, vj, h1, h2, h4, h6⟩
  · rw [pl, if_neg (by decide), mk]; exact PR.nmk

theorem VRs.nr_ (hU : UOk U) {l : List (SV T)} {vs : List Value} (h : VRs U ρ M l vs) (hn : l.all nr = true) : VRs U ρ' M l vs :=
  ⟨h.1, fun i h1 h2 => (h.2 i h1 h2).nr hU (List.all_eq_true.1 hn _ (List.getElem_mem h1))⟩

theorem PoolR.pool {env : Nat → Blk T} {cs : List (Cell T)} (h : PoolR U w0 env ρ M w cs) : Pool U w0.own M w cs := ⟨h.cell, h.fresh, h.inj, h.old⟩

theorem cells_of {M0 : Mem} {b t : Nat} {ks : List (SV T)} (h : MR U w0 M0 s.blk ρ M w) (hb : s.blk b = .cells t ks) : ∃ g vs, ρ b = some (.pointer (some ⟨g, 0, none⟩)) ∧ w0.own g ∧ w.heap[g]? = some (.cells vs t (0, 0)) ∧ CR U ρ M ks vs.toList ∧ Free M g := by
  rcases h.blk b with d | ⟨_, d⟩ | ⟨v', hv', hB⟩
  · rw [hb] at d; cases d
  · rw [hb] at d; cases d
  · rw [hb] at hB
    obtain ⟨g, vs, rfl, h1, h2, h3, h4⟩ := hB
    exact ⟨g, vs, hv', h1, h2, h3, h4⟩

theorem callH_ok (hU : UOk U) (hm : U.hm = true) (R : Rh8 U w0 M0 nt s nid a w ρ M) {F : CallE T} {n : Nat} (S : SndE P U n F) {cl : Call} {f : Operand} {fx fy : Array Value} (ho : o.op = .call cl) (hcl : cl.callee = .value f) (hfe : a.eval f = .func (.func n) fx fy) (hfx : fx = #[]) (hfy : fy = #[])
    {l : List (SV T)} (hl : OpdsR cl.args.toList s l) (hr : (callH F l).run s = some c) {x : c.X} (hx : c.call = some x) :
    OpOk P o a w (PostH U w0 M0 s nid ρ M (c.out x).1 (c.out x).2) := by
  obtain ⟨hlen, hvr⟩ := hl.vr R.rl
  have hargs : VRs U ρ M l (cl.args.map a.eval).toList := ⟨by simpa using hlen, fun i h1 h2 => by
    have := hvr i h1 (by rw [← hlen]; exact h1)
    simpa using this⟩
  have hta : (cl.args.map a.eval).toList.toArray = cl.args.map a.eval := Array.toArray_toList
  unfold callH at hr
  split at hr
  · rename_i F
    split at hr
    · cases hr
    rename_i hnr
    simp only [RQ.run] at hr
    split at hr
    · rename_i cs hcs
      split at hr
      · cases hr
      · rename_i cr hF
        simp only [RQ.run, Option.some.injEq] at hr
        subst hr
        obtain ⟨cs1, e, PR⟩ := R.hx.on hm
        rw [hcs] at e
        cases e
        have C := S.run .dead cs l cr x hF hx w M w0.own [] _ R.mr.sub PR.bp PR.pool rfl (hargs.nr_ hU hnr)
        rw [List.nil_append, hta] at C
        refine .inr (.inr ⟨n, cl.args.map a.eval, call_enter ho hcl hfe hfx hfy S.enter, C.mono ?_⟩)
        rintro e w' ⟨v, M', cs', ks, rfl, hout, A⟩
        refine ⟨v, rfl, ?_⟩
        obtain rfl := A.none_ rfl
        show PostH U w0 M0 s nid ρ M (outH (cr.out x)).1 (outH (cr.out x)).2 v w'
        unfold outH
        rw [hout]
        exact ansP_post R hm hcs A (.inl ⟨rfl, rfl⟩)
    · cases hr
  · rename_i F
    split at hr
    · rename_i b l
      split at hr
      · cases hr
      rename_i hck
      obtain ⟨hnr, hck⟩ := Bool.and_eq_true_iff.1 hck
      obtain ⟨hb1, hb2⟩ := Bool.and_eq_true_iff.1 hck
      have hb1' : b ≠ PLB := fun e => by rw [(beq_iff _ _).2 e] at hb1; cases hb1
      have hb2' : b ≠ MKB := fun e => by rw [(beq_iff _ _).2 e] at hb2; cases hb2
      simp only [RQ.run] at hr
      split at hr
      · rename_i cs hcs
        simp only [RQ.run] at hr
        split at hr
        · rename_i t ks hb
          split at hr
          · cases hr
          rename_i hks
          split at hr
          · cases hr
          · rename_i cr hF
            simp only [RQ.run, Option.some.injEq] at hr
            subst hr
            obtain ⟨cs1, e, PR⟩ := R.hx.on hm
            rw [hcs] at e
            cases e
            obtain ⟨u, us, hus, hxu, hrest⟩ := hargs.uncons
            have hlb : (s.blk b).live = true := by rw [hb]; rfl
            obtain ⟨g, vs', hρ, _, hh, hcr, hfree⟩ := cells_of R.mr hb
            cases hxu with
            | ptr _ g' _ hρ' =>
            rw [hρ] at hρ'
            cases hρ'
            have C := S.run (.cells t ks) cs l cr x hF hx w M w0.own [.pointer (some ⟨g, 0, none⟩)] us R.mr.sub PR.bp PR.pool
              ⟨_, rfl, ⟨g, vs', rfl, trivial, hh, ⟨hcr.len, hcr.one, fun i k1 k2 => (hcr.at_ i k1 k2).nr1 hU (List.all_eq_true.1 hks _ (List.getElem_mem k1))⟩, hfree⟩, hks, fun g' hg' ⟨j, c, vj, k1, k2, k3, k4⟩ => PR.apart j c b vj _ g' k1 k2 hlb k3 hρ k4 hg'⟩ (hrest.nr_ hU hnr)
            rw [List.singleton_append, ← hus, hta] at C
            refine .inr (.inr ⟨n, cl.args.map a.eval, call_enter ho hcl hfe hfx hfy S.enter, C.mono ?_⟩)
            rintro e w' ⟨v, M', cs', ks', rfl, hout, A⟩
            refine ⟨v, rfl, ?_⟩
            obtain ⟨k', rfl, _, _, _⟩ := A.lent _ rfl
            show PostH U w0 M0 s nid ρ M (outHL b (cr.out x)).1 (outHL b (cr.out x)).2 v w'
            unfold outHL
            rw [hout]
            exact ansP_post R hm hcs A (.inr ⟨b, _, k', rfl, rfl, rfl, hρ, hlb, hb1', hb2'⟩)
        · cases hr
      · cases hr
    · cases hr
  · rename_i F
    split at hr
    · cases hr
    rename_i hnr
    simp only [RQ.run] at hr
    split at hr
    · rename_i cs hcs
      split at hr
      · cases hr
      · rename_i cr hF
        simp only [RQ.run, Option.some.injEq] at hr
        subst hr
        obtain ⟨cs1, e, PR⟩ := R.hx.on hm
        rw [hcs] at e
        cases e
        have C := S.run cs l cr x hF hx w M w0.own _ R.mr.sub PR.bp PR.pool (hargs.nr_ hU hnr)
        rw [hta] at C
        refine .inr (.inr ⟨n, cl.args.map a.eval, call_enter ho hcl hfe hfx hfy S.enter, C.mono ?_⟩)
        rintro e w' ⟨v, M', rfl, A⟩
        refine ⟨v, rfl, ?_⟩
        have := ansP_post R hm hcs A (.inl ⟨rfl, rfl⟩)
        obtain ⟨ρ', M2, h1, h2, h3, h4, h5, h6⟩ := this
        have ee : (s.puts [(PLB, .mark cs)]).blk = (s.puts []).blk := funext fun b => by
          rw [blk_cons]
          split
          · rename_i k; subst k; exact hcs.symm
          · rfl
        rw [ee] at h4 h5
        exact ⟨ρ', M2, h1, h2, h3, h4, h5, h6⟩
    · cases hr
  · cases hr
theorem okR_len {t h : Nat} {cs : List (Cell T)} {env : Nat → Blk T} (PR : PoolR U w0 env ρ M w cs) (hk : okR t cs h = true) {v : Value} (hv : VR U ρ M (.hnd t h) v) : ∃ A cp, v = .slice A (rdc t cs h).length cp := by
  cases hv with
  | hnd0 => exact ⟨_, _, rfl⟩
  | hnd _ j A n cp hp =>
    simp only [okR] at hk
    simp only [rdc]
    cases hj : cs[j]? with
    | none => rw [hj] at hk; cases hk
    | some cc =>
      rw [hj] at hk
      rcases PR.cell j cc hj with d | ⟨u, hu, hB⟩
      · subst d; cases hk
      rw [hp] at hu
      cases hu
      cases cc with
      | dead => cases hk
      | arr t' xs =>
        have := Nat.eq_of_beq_eq_true hk
        subst this
        obtain ⟨cl, k1, _⟩ := hB
        obtain ⟨rfl, _⟩ := own_len k1 rfl
        exact ⟨A, cp, by simp⟩
      | frz t' xs =>
        have := Nat.eq_of_beq_eq_true hk
        subst this
        obtain ⟨A', cp', e⟩ := row_slice hB.2
        cases e
        exact ⟨A, cp, by simp⟩

theorem lenH_ok (hm : U.hm = true) (R : Rh8 U w0 M0 nt s nid a w ρ M) {cl : Call} (ho : o.op = .call cl) (hcl : cl.callee = .builtin .len) {t h : Nat} (hl : OpdsR cl.args.toList s [.hnd t h])
    (hr : (lenH P cl t h).run s = some c) (hc : c.conds.all id = true) {x : c.X} (hx : c.call = some x) :
    OpOk P o a w (PostH U w0 M0 s nid ρ M (c.out x).1 (c.out x).2) := by
  obtain ⟨y, hy, vy⟩ := args1 hl R.rl
  unfold lenH at hr
  split at hr
  · rename_i te hu
    obtain ⟨tt, ht, hu⟩ := types_at hu
    simp only [RQ.run] at hr
    split at hr
    · rename_i cs hcs
      simp only [RQ.run, Option.some.injEq] at hr
      subst hr
      obtain ⟨cs1, e, PR⟩ := R.hx.on hm
      rw [hcs] at e
      cases e
      simp only [Step.if_, List.all_cons, List.all_nil, Bool.and_true, id] at hc
      obtain ⟨A, cp, e⟩ := okR_len PR hc vy
      rw [e] at hy
      refine .inl ⟨.int .i64 ((rdc t cs h).length : Int), w, call_run ho hcl fun cs' => ?_, ⟨ρ, M, .refl _, .refl _, fun _ _ h => h, R.mr, R.hx, .v _⟩⟩
      simp only [Go.builtin, hy]
      refine run_v ?_
      have ht' : cl.argTypes[0]? = some tt := ht
      simp [Builtin.len_, ht', run_underlying hu, goInt]
    · cases hr
  · cases hr

theorem opE_ok (hU : UOk U) (hT : ∀ n F, Tb n = some F → SndE P U n F) (hm : U.hm = true) (R : Rh U w0 M0 nt s nid a w ρ M) (h : (opE P U Tb nid o.op).run s = some c) (hc : c.conds.all id = true) {x : c.X} (hx : c.call = some x) :
    OpOk P o a w (PostH U w0 M0 s nid ρ M (c.out x).1 (c.out x).2) := by
  have hlen : (hOps o.op).length ≤ 2 := by
    have t1 : ∀ x : Operand, (tmpO x).length ≤ 1 := fun x => by cases x <;> simp [tmpO]
    cases o.op with
    | load t p => exact Nat.le_trans (t1 p) (by decide)
    | store t p x => exact Nat.le_trans (t1 p) (by decide)
    | indexAddr t p i => exact Nat.le_trans (t1 p) (by decide)
    | slice t p l h m => exact Nat.le_trans (t1 p) (by decide)
    | convert t t' p => exact Nat.le_trans (t1 p) (by decide)
    | call cl =>
      unfold hOps
      simp only
      split
      · generalize cl.args.toList = l
        match l with
        | [] => simp
        | [x] => have := t1 x; simp; omega
        | x :: y :: r => have := t1 x; have := t1 y; simp; omega
      · simp
    | _ => simp [hOps]
  have q := impL_ok (w0 := w0) (M0 := M0) (nt := nt) (nid := nid) (a := a) (w := w) (o := o) (Tb := Tb) hU hT hm (hOps o.op) (nid + 8) (Nat.le_refl _) (by omega)
  unfold opE at h
  split at h
  · exact impA_ok hU hm q R.toRh8 R.nx h hc hx
  · simp only [RQ.run] at h
    split at h
    · rename_i cs hcs
      obtain ⟨c0, g0, g1⟩ := RQ.bind_run h
      simp only [RQ.run, Option.some.injEq] at g1
      subst g1
      exact absR_ok hU hm q R.toRh8 R.nx hcs g0 hc hx
    · cases h

/-- An operation, where a heap of handles may be. -/
theorem good_h (hU : UOk U) (hT : ∀ n F, Tb n = some F → SndE P U n F) (R : Rh U w0 M0 nt s nid a w ρ M) (h : (opH P U Tb nid o.op).run s = some c) (hc : c.conds.all id = true) {x : c.X} (hx : c.call = some x) :
    OpOk P o a w (PostH U w0 M0 s nid ρ M (c.out x).1 (c.out x).2) := by
  unfold opH at h
  cases hm : U.hm with
  | false =>
    rw [hm] at h
    have := (good_base hU hT R.toRh8 h hc hx).imp fun _ _ => PostH8.up
    unfold wsH at this
    rw [hm] at this
    exact this
  | true =>
    rw [hm] at h
    have base : (opE P U Tb nid o.op).run s = some c → OpOk P o a w (PostH U w0 M0 s nid ρ M (c.out x).1 (c.out x).2) := fun h => opE_ok hU hT hm R h hc hx
    generalize hop : o.op = op at h base
    cases op with
    | call cl =>
      simp only at h
      split at h
      · rename_i hcl
        obtain ⟨l, hl, h⟩ := rdOs_run h
        split at h
        · exact lenH_ok hm R.toRh8 hop hcl hl h hc hx
        · exact base h
      · rename_i f hcl
        obtain ⟨sf, hf, h⟩ := rdO_run h
        have vf := hf.vr R.toRh8.rl
        split at h
        · rename_i n fx fy
          split at h
          · rename_i hsz
            have hsz' := beq_eq hsz
            have hfx : fx = #[] := Array.eq_empty_of_size_eq_zero (by omega)
            have hfy : fy = #[] := Array.eq_empty_of_size_eq_zero (by omega)
            generalize hfe : a.eval f = fv at vf
            cases vf
            split at h
            · rename_i F hF
              split at h
              · obtain ⟨l, hl, h⟩ := rdOs_run h
                exact callH_ok hU hm R.toRh8 (hT n F hF) hop hcl hfe hfx hfy hl h hx
              · exact base h
            · cases h
          · cases h
        · cases h
      · exact base h
    | _ => exact base h
end
end Go.Sx
