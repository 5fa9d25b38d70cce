/- An evaluator of the model's code over symbolic values, and its soundness: part 23. No condition. -/
import Derived.Test.YtecniihieninjaaSyQ
set_option linter.unusedVariables false
set_option linter.unusedSimpArgs false
namespace Go.Sx
open Go.RowKit
variable {T : Nat → Type} {U : Univ T} {P : Program}

section
variable {w0 : Frm} {M0 : Mem} {nt nid : Nat} {s s' : St T} {a : Act} {w : World} {ρ ρ' : Nat → Option Value} {M : Mem}

theorem VR.thaw1 (R : Rc U w0 M0 nt s a w ρ M) {x : SV T} {v : Value} (h : VR U ρ M x v) : VR U ρ M (thaw1 s x) v := by
  cases x with
  | own b =>
    simp only [Sx.thaw1]
    split
    · rename_i t xs hb
      cases h with
      | own _ A n cp hρ =>
        obtain ⟨v', hv', _, hr⟩ := R.mr.frz hb
        rw [hρ] at hv'
        cases hv'
        exact hr
    · exact h
  | _ => exact h

theorem VR.thaw2 (R : Rc U w0 M0 nt s a w ρ M) {x : SV T} {v : Value} (h : VR U ρ M x v) : VR U ρ M (thaw2 s x) v := by
  cases x with
  | agg l =>
    cases h with
    | agg _ vs hl hf hv => exact .agg _ vs (by simpa using hl) hf fun i h1 h2 => (by simp only [List.getElem_map]; exact (hv i (by simpa using h1) h2).thaw1 R)
  | _ => exact h.thaw1 R

theorem VR.thaw (R : Rc U w0 M0 nt s a w ρ M) {x : SV T} {v : Value} (h : VR U ρ M x v) : VR U ρ M (thaw s x) v := by
  cases x with
  | tup l =>
    cases h with
    | tup _ vs hl hv => exact .tup _ vs (by simpa using hl) fun i h1 h2 => (by simp only [List.getElem_map]; exact (hv i (by simpa using h1) h2).thaw2 R)
  | _ => exact h.thaw2 R

def resF (tmps : Array Value) : ResultVar → Sem Value
  | .tmp t => pure (tmps.getD t undef)
  | .cell a t => do loadVar t (← asAddr (tmps.getD a undef))

theorem results_eq (fn : Func) (tmps : Array Value) : results fn tmps = (fn.results.mapM (resF tmps) >>= fun vs => pure (if h : vs.size = 1 then vs[0] else .tuple vs)) := rfl

theorem resL_run (R : Rc U w0 M0 nt s a w ρ M) : ∀ {rs : List ResultVar} {l : List (SV T)}, resL P s rs = some l →
    ∃ vs : List Value, (rs.mapM (resF a.tmps)).run P w = .ok vs w ∧ VRs U ρ M l vs
  | [], l, h => by
    simp only [resL, Option.some.injEq] at h
    subst h
    exact ⟨[], rfl, rfl, fun i h => by simp at h⟩
  | .tmp t :: rs, l, h => by
    simp only [resL] at h
    split at h
    · rename_i l' hl
      simp only [Option.some.injEq] at h
      subst h
      obtain ⟨vs, hr, hv⟩ := resL_run R hl
      refine ⟨a.tmps.getD t undef :: vs, ?_, .cons (R.tm t) hv⟩
      rw [List.mapM_cons, Sem.run_bind]
      show ((pure (a.tmps.getD t undef) : Sem Value).run P w).andThen _ = _
      rw [Sem.run_pure, Result.andThen_ok, Sem.run_bind, hr]
      rfl
    · cases h
  | .cell c t :: rs, l, h => by
    simp only [resL] at h
    split at h
    · rename_i b off hg
      split at h
      · rename_i t' cs hb
        split at h
        · rename_i x l' hx hl
          simp only [Option.some.injEq] at h
          subst h
          obtain ⟨vs, hr, hv⟩ := resL_run R hl
          have vp := R.tm c
          rw [hg] at vp
          obtain ⟨g, vs', hρ, _, hh, hcr, _⟩ := R.mr.cells hb
          generalize hpe : a.tmps.getD c undef = pv at vp
          cases vp with
          | ptr _ g' _ hρ' =>
            rw [hρ] at hρ'
            cases hρ'
            obtain ⟨u, hl2, hu⟩ := ld_run (P := P) (w := w) (g := g) (o := 0) hcr (fun j u hj => by rw [Nat.zero_add, cell_of_row w g j vs' t' (0, 0) hh]; simpa using hj) hx
            rw [Nat.zero_add] at hl2
            refine ⟨u :: vs, ?_, .cons hu hv⟩
            rw [List.mapM_cons, Sem.run_bind]
            have e : (resF a.tmps (.cell c t)).run P w = .ok u w := by
              show (do loadVar t (← asAddr (a.tmps.getD c undef)) : Sem Value).run P w = _
              rw [hpe, Sem.run_bind]
              exact hl2
            rw [e, Result.andThen_ok, Sem.run_bind, hr]
            rfl
        · cases h
      · cases h
    · cases h

theorem results_of {fn : Func} {l : List (SV T)} {vs : List Value} (hr : (fn.results.toList.mapM (resF a.tmps)).run P w = .ok vs w) (hv : VRs U ρ M l vs) :
    ∃ v, (results fn a.tmps).run P w = .ok v w ∧ VR U ρ M (oneOf l) v := by
  have hm : (fn.results.mapM (resF a.tmps)).run P w = .ok vs.toArray w := by
    rw [Array.mapM_eq_mapM_toList, Sem.run_map, hr]
    rfl
  rw [results_eq, Sem.run_bind, hm, Result.andThen_ok]
  have hl := hv.1
  match l, vs, hl, hv with
  | [x], [v], _, hv => exact ⟨v, by simp, hv.2 0 (by simp) (by simp)⟩
  | [], [], _, hv => exact ⟨.tuple #[], by simp, VR.tup (U := U) (ρ := ρ) (M := M) [] [] rfl fun i h => by simp at h⟩
  | x :: y :: l, v :: u :: vs, hl, hv => exact ⟨.tuple (v :: u :: vs).toArray, by simp, .tup _ _ hl hv.2⟩
  | [_], [], hl, _ => simp at hl
  | [_], _ :: _ :: _, hl, _ => simp at hl
  | [], _ :: _, hl, _ => simp at hl
  | _ :: _ :: _, [], hl, _ => simp at hl
  | _ :: _ :: _, [_], hl, _ => simp at hl
theorem results_run (R : Rc U w0 M0 nt s a w ρ M) {fn : Func} {l : List (SV T)} (h : resL P s fn.results.toList = some l) :
    ∃ v, (results fn a.tmps).run P w = .ok v w ∧ VR U ρ M (oneOf l) v := by
  obtain ⟨vs, hr, hv⟩ := resL_run (P := P) R h
  exact results_of hr hv
end

section
variable {R : Type} {F : Fn T R}

def oneV (vs : List Value) : Value := match vs with
  | [y] => y
  | vs => .tuple vs.toArray

theorem Frm.own_nil {f : Frm} (hp : f.pin = []) (ho : f.ow = noO) {g : Nat} : f.own g ↔ f.w.heap.size ≤ g := by
  unfold Frm.own
  rw [hp, ho]
  simp [noO]
theorem Fr.below {f : Frm} (hp : f.pin = []) (hq : f.ow = noO) {w : World} (h : Fr f w) : Below f.w.heap.size f.w w :=
  ⟨h.os, h.tape, h.output, h.size, fun k hk => h.block k (fun ho => by have := (Frm.own_nil hp hq).1 ho; omega)⟩

/-- A function told without a heap of handles. -/
structure FnOk0 (F : Fn T R) : Prop extends FnOk F where
  hm : F.U.hm = false

theorem fin_frz (hF : FnOk0 F) (hz : F.frz = true) {w0 : Frm} {M0 : Mem} {r : R} {a : Act} {w : World} {fn : Func} (hres : fn.results.toList = F.res) (h : Done F w0 M0 r a w) :
    ∃ v, (results fn a.tmps).run F.P w = .ok v w ∧ ∃ x bl s ρ M', F.fin x bl = some r ∧ lentC F.nl s = some bl ∧ MR F.U w0 M0 s.blk ρ M' w ∧ VR F.U (fun _ => none) M' x v := by
  obtain ⟨s, ρ, M, RA, h⟩ := h
  have R := RA.rc
  unfold finS at h
  split at h
  · cases h
  rename_i l hl
  obtain ⟨v, hv, hvr⟩ := results_run (P := F.P) R (fn := fn) (by rw [hres]; exact hl)
  rw [hF.hm, hz] at h
  simp only at h
  · split at h
    · cases h
    · rename_i q hq
      split at h
      · cases h
      split at h
      · cases h
      · rename_i hnr _ bl hbl
        obtain ⟨vs, hrs, hvs⟩ := resL_run (P := F.P) R hl
        obtain ⟨q', ws, M', hle, F1, _, hvq, hq'⟩ := argL_run hF.U (s := s) (ws0 := []) (Mb := M) ⟨.refl _, (R.mr0 hF.hm), fun p hp => by simp at hp⟩ hq
        rw [List.append_nil] at F1
        obtain ⟨hws, hq'⟩ : (ws.all fun p => Nat.ble F.nl p.1) = true ∧ q = ULift.up q' := by
          split at hq'
          · rename_i hws
            simp only [RQ.run, Option.some.injEq] at hq'
            exact ⟨hws, hq'.symm⟩
          · cases hq'
        subst hq'
        have hb0 : F.nl = 1 → (s.puts ws).blk 0 = s.blk 0 := fun h1 => puts_not s 0 ws fun p hp e => by
          have := List.all_eq_true.1 hws p hp
          rw [h1, e] at this
          simp at this
        have hlc : lentC F.nl (s.puts ws) = some bl := by
          rw [← hbl]
          unfold lentC
          split
          · rfl
          · rename_i e
            rw [hb0 e]
          · rfl
        have hn := normL_vr (P := F.P) (ts := F.rty) hF.U (hvq _ hvs)
        -- the same list of values
        have hv' : v = oneV vs := by
          rw [results_eq, Sem.run_bind] at hv
          have hm : (fn.results.mapM (resF a.tmps)).run F.P w = .ok vs.toArray w := by
            rw [Array.mapM_eq_mapM_toList, Sem.run_map, hres, hrs]
            rfl
          rw [hm, Result.andThen_ok] at hv
          match vs, hv with
          | [y], hv => simpa [oneV] using hv.symm
          | [], hv => simpa [oneV] using hv.symm
          | y :: z :: vs, hv => simpa [oneV] using hv.symm
        have hone : VR F.U (fun _ => none) M' (oneOf (normL F.P F.U F.rty q')) v := by
          rw [hv']
          have hn0 : VRs F.U (fun _ => none) M' (normL F.P F.U F.rty q') vs := ⟨hn.1, fun i h1 h2 => (hn.2 i h1 h2).nr hF.U (List.all_eq_true.1 hnr _ (List.getElem_mem h1))⟩
          generalize normL F.P F.U F.rty q' = l' at hn0
          match l', vs, hn0 with
          | [x], [y], hn0 => exact hn0.2 0 (by simp) (by simp)
          | [], [], _ => exact .tup [] [] rfl fun i h => by simp at h
          | x :: x' :: l', y :: y' :: vs, hn0 => exact .tup _ _ hn0.1 hn0.2
          | [_], [], hn0 => have := hn0.1; simp at this
          | [_], _ :: _ :: _, hn0 => have := hn0.1; simp at this
          | [], _ :: _, hn0 => have := hn0.1; simp at this
          | _ :: _ :: _, [], hn0 => have := hn0.1; simp at this
          | _ :: _ :: _, [_], hn0 => have := hn0.1; simp at this
        exact ⟨v, hv, _, bl, s.puts ws, ρ, M', h, hlc, F1.mr, hone⟩

theorem fin_own (hF : FnOk0 F) (hnl : F.nl = 0) {w0 : Frm} (hp : w0.pin = []) (hq : w0.ow = noO) (hkeep : w0.keep = true) {M0 : Mem} {r : R} {a : Act} {w : World} {s : St T} {ρ : Nat → Option Value} {M : Mem} {x : SV T} {v : Value} (R : Rc F.U w0 M0 F.nt s a w ρ M) (hvx : VR F.U ρ M x v) (h : finT F s x = some r) : ∃ x bl ρ' M', F.fin x bl = some r ∧ Ans F.U w0.w M0 x bl v w ρ' M' := by
  unfold finT at h
  rw [hnl] at h
  generalize metL s.env 3 [x] (List.range 0) = ids at h
  unfold finI at h
  split at h
  · rename_i hchk
    simp only [Bool.and_eq_true] at hchk
    obtain ⟨hnd, _, harr⟩ := hchk
    refine ⟨_, _, rhoOf ids ρ, M, h, ⟨(R.mr0 hF.hm).fr.below hp hq, (R.mr0 hF.hm).m0, fun b o hb => (R.mr0 hF.hm).mo b o (fun ho => by have := (Frm.own_nil hp hq).1 ho; omega), (R.mr0 hF.hm).sub, hvx.rn hF.U (ren_ids ids ρ), fun i k hk => ?_, ?_, (R.mr0 hF.hm).bpw, fun B hB g x hx => ((R.mr0 hF.hm).bpo B hB g x hx).imp id (Frm.own_nil hp hq).1, (R.mr0 hF.hm).kp hkeep, (R.mr0 hF.hm).hpo⟩⟩
    · rw [List.getElem?_map] at hk
      cases hi : ids[i]? with
      | none => rw [hi] at hk; cases hk
      | some b =>
        rw [hi] at hk
        simp only [Option.map_some, Option.some.injEq] at hk
        have hok : okB (s.blk b) = true := List.all_eq_true.1 harr b (List.mem_of_getElem? hi)
        rcases (R.mr0 hF.hm).blk b with d | ⟨_, d⟩ | ⟨v', hv', hB⟩
        · rw [d] at hok; cases hok
        · rw [d] at hok; cases hok
        · refine ⟨v', by simp only [rhoOf, hi]; exact hv', ?_⟩
          rw [← hk]
          exact hB.okr hF.U hok fun g _ hg => (Frm.own_nil hp hq).1 hg
    · intro i j ki kj vi vj g hi hj ei ej gi gj
      rw [List.getElem?_map] at hi hj
      cases hbi : ids[i]? with
      | none => rw [hbi] at hi; cases hi
      | some b =>
        cases hbj : ids[j]? with
        | none => rw [hbj] at hj; cases hj
        | some b' =>
          simp only [rhoOf, hbi] at ei
          simp only [rhoOf, hbj] at ej
          have l1 : (s.blk b).live = true := by
            have := List.all_eq_true.1 harr b (List.mem_of_getElem? hbi)
            cases hb : s.blk b <;> rw [hb] at this <;> first | rfl | cases this
          have l2 : (s.blk b').live = true := by
            have := List.all_eq_true.1 harr b' (List.mem_of_getElem? hbj)
            cases hb : s.blk b' <;> rw [hb] at this <;> first | rfl | cases this
          have := (R.mr0 hF.hm).inj b b' vi vj g l1 l2 ei ej gi gj
          subst this
          exact nodup_ids hnd i j b hbi hbj
  · cases h

/-- A nil result told as an empty row of one's own. -/
theorem ra_nil {U : Univ T} {nt : Nat} {s : St T} {a : Act} {w : World} {ρ : Nat → Option Value} {M : Mem} {w0 : Frm} {M0 : Mem} (R : Ra U w0 M0 nt s a w ρ M) (hm : U.hm = false) (e : Nat) :
    LeR ρ (updR ρ s.nb (.slice none 0 0)) ∧ Ra U w0 M0 nt ⟨s.tm, (s.nb, .arr e []) :: s.env, s.nb + 1⟩ a w (updR ρ s.nb (.slice none 0 0)) M := by
  have hle : LeR ρ (updR ρ s.nb (.slice none 0 0)) := LeR.upd (R.nw s.nb (Nat.le_refl _))
  have hblk : ∀ b, (St.blk (⟨s.tm, (s.nb, .arr e []) :: s.env, s.nb + 1⟩ : St T) b) = if s.nb = b then .arr e [] else s.blk b := fun b => blk_put1 s s.nb (.arr e []) b
  refine ⟨hle, ⟨⟨?_, fun t => (R.rc.tm t).mono hle (.refl _), R.rc.sz, R.rc.df, R.rc.hx0 hm⟩, fun b hb => ?_⟩⟩
  · refine R.rc.mr.step (fun b => b = s.nb) R.rc.mr.fr hle (.refl _) (R.rc.mr.same fun _ _ _ _ _ => rfl) (fun _ _ _ => rfl) R.rc.mr.sub (fun b hb => ⟨by rw [hblk, if_neg (Ne.symm hb)], fun _ _ _ _ _ => ⟨rfl, .refl _ _⟩⟩) (fun b hb => ?_) ?_
    · subst hb
      refine .inr ⟨.slice none 0 0, by simp [updR], ?_⟩
      rw [hblk, if_pos rfl]
      exact ⟨[], ⟨by simp, .inl ⟨rfl, rfl⟩⟩, .nil, (fun g hg => by cases hg), (fun g hg => by cases hg)⟩
    · intro b b' v v' g h1 h2 e1 e2 g1 g2
      have old : ∀ b v g, (St.blk (⟨s.tm, (s.nb, .arr e []) :: s.env, s.nb + 1⟩ : St T) b).live = true → updR ρ s.nb (.slice none 0 0) b = some v → blockOf v = some g → (s.blk b).live = true ∧ ρ b = some v := by
        intro b v g h1 e1 g1
        by_cases hb : b = s.nb
        · subst hb
          simp [updR] at e1
          subst e1
          cases g1
        · rw [hblk, if_neg (Ne.symm hb)] at h1
          unfold updR at e1
          rw [if_neg hb] at e1
          exact ⟨h1, e1⟩
      obtain ⟨a1, a2⟩ := old b v g h1 e1 g1
      obtain ⟨b1, b2⟩ := old b' v' g h2 e2 g2
      exact R.rc.mr.inj b b' v v' g a1 b1 a2 b2 g1 g2
  · have hb' : s.nb + 1 ≤ b := hb
    unfold updR
    rw [if_neg (by omega)]
    exact R.nw b (by omega)

theorem ownC_ok {U : Univ T} {nt : Nat} {a : Act} {w : World} {M : Mem} {w0 : Frm} {M0 : Mem} (hm : U.hm = false) : ∀ {l l' : List (SV T)} {s : St T} {ρ : Nat → Option Value} {vs : List Value}, Ra U w0 M0 nt s a w ρ M → VRs U ρ M l vs →
    ∃ ρ', Ra U w0 M0 nt (ownC l l' s).2 a w ρ' M ∧ VRs U ρ' M (ownC l l' s).1 vs ∧ LeR ρ ρ'
  | [], l', s, ρ, vs, R, h => ⟨ρ, R, h, .refl _⟩
  | x :: l, [], s, ρ, vs, R, h => ⟨ρ, R, h, .refl _⟩
  | x :: l, y :: l', s, ρ, vs, R, h => by
    obtain ⟨v, vs', rfl, hx, hr⟩ := h.uncons
    unfold ownC
    split
    · rename_i e
      cases hx
      obtain ⟨k1, k2⟩ := ra_nil R hm e
      obtain ⟨ρ', h1, h2, h3⟩ := ownC_ok hm (l' := l') k2 ⟨hr.1, fun i h1 h2 => (hr.2 i h1 h2).mono k1 (.refl _)⟩
      exact ⟨ρ', h1, .cons (.own s.nb none 0 0 (h3 _ _ (by simp [updR]))) h2, k1.trans h3⟩
    · obtain ⟨ρ', h1, h2, h3⟩ := ownC_ok hm (l' := l') R hr
      exact ⟨ρ', h1, .cons (hx.mono h3 (.refl _)) h2, h3⟩

theorem ownL_ok {P : Program} {U : Univ T} {nt : Nat} {a : Act} {w : World} {M : Mem} {w0 : Frm} {M0 : Mem} (hm : U.hm = false) : ∀ {ts : List Nat} {l : List (SV T)} {s : St T} {ρ : Nat → Option Value} {vs : List Value}, Ra U w0 M0 nt s a w ρ M → VRs U ρ M l vs →
    ∃ ρ', Ra U w0 M0 nt (ownL P U ts l s).2 a w ρ' M ∧ VRs U ρ' M (ownL P U ts l s).1 vs ∧ LeR ρ ρ'
  | [], l, s, ρ, vs, R, h => ⟨ρ, R, h, .refl _⟩
  | t :: ts, [], s, ρ, vs, R, h => ⟨ρ, R, h, .refl _⟩
  | t :: ts, x :: l, s, ρ, vs, R, h => by
    obtain ⟨v, vs', rfl, hx, hr⟩ := h.uncons
    have plain : ∃ ρ', Ra U w0 M0 nt (ownL P U ts l s).2 a w ρ' M ∧ VRs U ρ' M (x :: (ownL P U ts l s).1) (v :: vs') ∧ LeR ρ ρ' := by
      obtain ⟨ρ', h1, h2, h3⟩ := ownL_ok (P := P) hm (ts := ts) R hr
      exact ⟨ρ', h1, .cons (hx.mono h3 (.refl _)) h2, h3⟩
    unfold ownL
    split
    · split
      · rename_i e _
        cases hx
        obtain ⟨k1, k2⟩ := ra_nil R hm e
        obtain ⟨ρ', h1, h2, h3⟩ := ownL_ok (P := P) hm (ts := ts) k2 ⟨hr.1, fun i h1 h2 => (hr.2 i h1 h2).mono k1 (.refl _)⟩
        exact ⟨ρ', h1, .cons (.own s.nb none 0 0 (h3 _ _ (by simp [updR]))) h2, k1.trans h3⟩
      · exact plain
    · split
      · rename_i cs y _
        cases hx with
        | agg _ us hl hf hu =>
          obtain ⟨ρ1, h1, h2, h3⟩ := ownC_ok hm (l' := U.enc t y) R ⟨hl, hu⟩
          obtain ⟨ρ', k1, k2, k3⟩ := ownL_ok (P := P) hm (ts := ts) h1 ⟨hr.1, fun i g1 g2 => (hr.2 i g1 g2).mono h3 (.refl _)⟩
          exact ⟨ρ', k1, .cons (.agg _ _ h2.1 hf fun i g1 g2 => (h2.2 i g1 g2).mono k3 (.refl _)) k2, h3.trans k3⟩
      · exact plain
    · exact plain

/-- What a walk ends with that hands back blocks of its own. -/
theorem fin_keep (hF : FnOk0 F) (hz : F.frz = false) (hnl : F.nl = 0) {w0 : Frm} (hp : w0.pin = []) (hq : w0.ow = noO) (hkeep : w0.keep = true) {M0 : Mem} {r : R} {a : Act} {w : World} {fn : Func} (hres : fn.results.toList = F.res) (h : Done F w0 M0 r a w) :
    ∃ v, (results fn a.tmps).run F.P w = .ok v w ∧ ∃ x bl ρ' M', F.fin x bl = some r ∧ Ans F.U w0.w M0 x bl v w ρ' M' := by
  obtain ⟨s, ρ, M, RA, h⟩ := h
  have R := RA.rc
  unfold finS at h
  split at h
  · cases h
  rename_i l hl
  rw [hF.hm, hz] at h
  simp only at h
  obtain ⟨vs, hr, hvs⟩ := resL_run (P := F.P) R (rs := fn.results.toList) (by rw [hres]; exact hl)
  obtain ⟨ρ', R', hvs', _⟩ := ownL_ok (P := F.P) hF.hm (ts := F.rty) RA hvs
  obtain ⟨v, hv, hvr⟩ := results_of (P := F.P) (a := a) (w := w) (fn := fn) hr hvs'
  exact ⟨v, hv, fin_own hF hnl hp hq hkeep R'.rc (hvr.thaw R'.rc) h⟩

def initS : List (SV T) → Nat → List (Nat × SV T)
  | [], _ => []
  | x :: l, i => (i, x) :: initS l (i + 1)
def st0 (l : List (SV T)) : St T := ⟨initS l 0, [], 0⟩

theorem look_init (t : Nat) : ∀ (l : List (SV T)) (i : Nat), look .any t (initS l i) = if i ≤ t then (l[t - i]?).getD .any else .any
  | [], i => by simp [initS, look]
  | x :: l, i => by
    simp only [initS]
    rw [look_put, look_init t l (i + 1)]
    by_cases h : i = t
    · subst h; simp
    · rw [if_neg h]
      by_cases h2 : i ≤ t
      · rw [if_pos (by omega), if_pos h2, show t - i = (t - (i + 1)) + 1 by omega, List.getElem?_cons_succ]
      · rw [if_neg (by omega), if_neg h2]

/-- A function's walk, out of its evaluation. -/
theorem walk_of (hF : FnOk F) {Q : Value → World → Prop} {n : Nat} {fn : Func} {body : Code} (hfn : F.P.funcs[n]? = some fn) (hb : fn.body = some body)
    (hnt : fn.ntmps = F.nt) {l : List (SV T)} {env0 : List (Nat × Blk T)} {nb : Nat} {pins : List Value} {kp : Bool} {ow : Nat → Prop} {ρ0 : Nat → Option Value} {w : World} {M : Mem} {vs : List Value} {i j : Nat} {r : R}
    (hp : pins.length ≤ F.nl) (hmr : MR F.U ⟨w, pins, kp, ow⟩ M (St.blk (⟨initS l 0, env0, nb⟩ : St T)) ρ0 M w) (hx0 : HX F.U ⟨w, pins, kp, ow⟩ M (St.blk (⟨initS l 0, env0, nb⟩ : St T)) ρ0 M w) (hnw : ∀ b, nb ≤ b → ρ0 b = none) (hvs : VRs F.U ρ0 M l vs) (hlen : l.length ≤ F.nt)
    (hev : ev F (evJ F i j) i [.code body] ⟨initS l 0, env0, nb⟩ = some r) (hend : ∀ a' w', Done F ⟨w, pins, kp, ow⟩ M r a' w' → ∃ v, (results fn a'.tmps).run F.P w' = .ok v w' ∧ Q v w') :
    Calls F.P n vs.toArray w fun e w' => ∃ v, e = .returned v ∧ Q v w' := by
  intro cs
  let a0 : Act := { tmps := vs.toArray ++ Array.replicate (fn.ntmps - vs.toArray.size) undef, defers := [] }
  have hl1 := hvs.1
  have R0 : Ra F.U ⟨w, pins, kp, ow⟩ M F.nt ⟨initS l 0, env0, nb⟩ a0 w ρ0 M := by
    refine ⟨⟨hmr, fun t => ?_, ?_, rfl, hx0⟩, hnw⟩
    · show VR F.U _ M (look .any t (initS l 0)) _
      rw [look_init, if_pos (Nat.zero_le _), Nat.sub_zero]
      cases ht : l[t]? with
      | none => exact .any _
      | some y =>
        have hlt : t < l.length := (List.getElem?_eq_some_iff.1 ht).1
        have e := (List.getElem?_eq_some_iff.1 ht).2
        have := hvs.2 t hlt (by omega)
        rw [e] at this
        have e2 : a0.tmps.getD t undef = vs[t]'(by omega) := by
          simp only [a0, Array.getD_eq_getD_getElem?]
          rw [Array.getElem?_append_left (by simp; omega)]
          simp [show t < vs.length by omega]
        rw [e2]
        exact this
    · simp only [a0, Array.size_append, Array.size_replicate]
      rw [hnt]
      simp
      omega
  have hr := ev_sound (w0 := ⟨w, pins, kp, ow⟩) (M0 := M) hF hp (fun todo s a w ρ M h R => evJ_sound hF hp i j h R) i hev R0
  let b : Frame := { (default : Frame) with fn := n, kind := .normal }
  have henter : Frame.enter F.P n vs.toArray .normal = b.at a0 [.code body] := by
    simp [Frame.enter, Frame.at, hfn, hb, b, a0]
  obtain ⟨a', w', todo', hd, hs⟩ := hr b cs
  obtain ⟨v, hres', h1⟩ := hend a' w' hd
  have hdf : a'.defers = [] := by obtain ⟨_, _, _, R, _⟩ := hd; exact R.rc.df
  rw [← henter] at hs
  exact ⟨.returned v, w', { b.at a' todo' with mode := .returning }, ⟨v, rfl, h1⟩, hs, rfl, rfl, hdf, rfl, fn, hfn, hres'⟩

/-- A function's contract, out of its evaluation. -/
theorem snd_of (hF : FnOk0 F) (hz : F.frz = true) (hnl : F.nl = 0) {n : Nat} {fn : Func} {body : Code} {Fw : List (SV T) → Option (CallRes T)} (hfn : F.P.funcs[n]? = some fn) (hname : (fn.name == "runtime.NumGoroutine") = false) (hb : fn.body = some body)
    (hnt : fn.ntmps = F.nt) (hres : fn.results.toList = F.res)
    (h : ∀ l c x, Fw l = some c → c.run = some x → ∃ l', (∀ ρ M vs, VRs F.U ρ M l vs → VRs F.U ρ M l' vs) ∧ l'.length ≤ F.nt ∧ ∃ (i j : Nat) (r : R), ev F (evJ F i j) i [.code body] (st0 l') = some r ∧ ∀ p q, F.fin p q = some r → (c.out x).2 = q ∧ ∀ ρ M v, VR F.U ρ M p v → VR F.U ρ M (c.out x).1 v) : Snd F.P F.U n Fw where
  enter := ⟨fn, hfn, hname, by rw [hb]; rfl⟩
  run := by
    intro l0 c x hl hx w M vs hsub hbp hE hvs0
    obtain ⟨l, hk, hlen, i, j, r, hev, hout⟩ := h l0 c x hl hx
    have C := walk_of (hx0 := .nil hF.hm) (env0 := []) (nb := 0) (pins := []) (kp := true) (ow := noO) (ρ0 := fun _ => none) (w := w) (M := M) hF.toFnOk hfn hb hnt (Nat.zero_le _)
      ⟨⟨rfl, rfl, rfl, Nat.le_refl _, fun _ _ => rfl⟩, fun i v h => by simp at h, .refl _, fun _ _ _ => rfl, hsub, fun b => .inl rfl, (fun b b' v v' g h1 => by cases h1), hbp, (fun B hB g x hx => .inl ⟨B, hB, hx⟩), (fun _ => rfl), (fun _ h => by cases h), hE, rfl⟩ (fun _ _ => rfl) (hk _ _ _ hvs0) hlen hev (fun a' w' hd => fin_frz hF hz hres hd)
    refine C.mono ?_
    rintro e w' ⟨v, he, p, bl, s, ρ, M', hfin, hbl, hmr, hv⟩
    rw [hnl] at hbl
    obtain rfl : bl = [] := by simpa [lentC] using hbl.symm
    obtain ⟨e1, e2⟩ := hout p [] hfin
    refine ⟨v, fun _ => none, M', he, ?_⟩
    rw [e1]
    exact ⟨hmr.fr.below rfl rfl, hmr.m0, fun b o hb => hmr.mo b o (fun ho => by have := (Frm.own_nil rfl rfl).1 ho; simp only at this; omega), hmr.sub, e2 _ _ _ hv, (fun i k hi => by simp at hi), (fun i j ki kj vi vj g hi => by simp at hi), hmr.bpw, (fun B hB g x hx => (hmr.bpo B hB g x hx).imp id (Frm.own_nil rfl rfl).1), hmr.kp rfl, hmr.hpo⟩

/-- One block's contents told as another's. -/
def BlkTo (U : Univ T) (k k2 : Blk T) : Prop := (∀ O ρ M w u, BR U O ρ M w u k → BR U O ρ M w u k2) ∧ (Lent1 k → Lent1 k2)

def BlksTo (U : Univ T) : List (Blk T) → List (Blk T) → Prop
  | [], [] => True
  | k :: q, k2 :: q2 => BlkTo U k k2 ∧ BlksTo U q q2
  | _, _ => False
theorem BlkTo.refl (U : Univ T) (k : Blk T) : BlkTo U k k := ⟨fun _ _ _ _ _ h => h, id⟩
theorem BlksTo.at_ {U : Univ T} : ∀ {q q2 : List (Blk T)}, BlksTo U q q2 → ∀ {i : Nat} {k2 : Blk T}, q2[i]? = some k2 → ∃ k, q[i]? = some k ∧ BlkTo U k k2
  | [], [], _, i, k2, h => by simp at h
  | k :: q, k' :: q2, h, 0, k2, hk => by
    simp only [List.getElem?_cons_zero, Option.some.injEq] at hk
    subst hk
    exact ⟨k, rfl, h.1⟩
  | k :: q, k' :: q2, h, i + 1, k2, hk => by
    rw [List.getElem?_cons_succ] at hk ⊢
    exact BlksTo.at_ h.2 hk
  | [], _ :: _, h, _, _, _ => h.elim
  | _ :: _, [], h, _, _, _ => h.elim
theorem BlksTo.app {U : Univ T} : ∀ {q q2 r r2 : List (Blk T)}, BlksTo U q q2 → BlksTo U r r2 → BlksTo U (q ++ r) (q2 ++ r2)
  | [], [], _, _, _, h => h
  | _ :: _, _ :: _, _, _, h, k => ⟨h.1, BlksTo.app h.2 k⟩
  | [], _ :: _, _, _, h, _ => h.elim
  | _ :: _, [], _, _, h, _ => h.elim

/-- The contract of a function that hands back blocks of its own. -/
theorem sndK_of (hF : FnOk0 F) (hz : F.frz = false) (hnl : F.nl = 0) {n : Nat} {fn : Func} {body : Code} {Fw : List (SV T) → Option (CallRes T)} (hfn : F.P.funcs[n]? = some fn) (hname : (fn.name == "runtime.NumGoroutine") = false) (hb : fn.body = some body)
    (hnt : fn.ntmps = F.nt) (hres : fn.results.toList = F.res)
    (h : ∀ l c x, Fw l = some c → c.run = some x → ∃ l', (∀ ρ M vs, VRs F.U ρ M l vs → VRs F.U ρ M l' vs) ∧ l'.length ≤ F.nt ∧ ∃ (i j : Nat) (r : R), ev F (evJ F i j) i [.code body] (st0 l') = some r ∧ ∀ p q, F.fin p q = some r → BlksTo F.U q (c.out x).2 ∧ ∀ ρ M v, VR F.U ρ M p v → VR F.U ρ M (c.out x).1 v) : Snd F.P F.U n Fw where
  enter := ⟨fn, hfn, hname, by rw [hb]; rfl⟩
  run := by
    intro l0 c x hl hx w M vs hsub hbp hE hvs0
    obtain ⟨l, hk, hlen, i, j, r, hev, hout⟩ := h l0 c x hl hx
    have C := walk_of (hx0 := .nil hF.hm) (env0 := []) (nb := 0) (pins := []) (kp := true) (ow := noO) (ρ0 := fun _ => none) (w := w) (M := M) hF.toFnOk hfn hb hnt (Nat.zero_le _)
      ⟨⟨rfl, rfl, rfl, Nat.le_refl _, fun _ _ => rfl⟩, fun i v h => by simp at h, .refl _, fun _ _ _ => rfl, hsub, fun b => .inl rfl, (fun b b' v v' g h1 => by cases h1), hbp, (fun B hB g x hx => .inl ⟨B, hB, hx⟩), (fun _ => rfl), (fun _ h => by cases h), hE, rfl⟩ (fun _ _ => rfl) (hk _ _ _ hvs0) hlen hev (fun a' w' hd => fin_keep hF hz hnl rfl rfl rfl hres hd)
    refine C.mono ?_
    rintro e w' ⟨v, he, p, q, ρ', M', hfin, A⟩
    obtain ⟨e1, e2⟩ := hout p q hfin
    refine ⟨v, ρ', M', he, ?_⟩
    refine ⟨A.bel, A.le, A.old, A.sub, e2 _ _ _ A.vr, fun i k hk => ?_, fun i j ki kj vi vj g hi hj => ?_, A.bpw, A.bpo, A.kp, A.hpe⟩
    · obtain ⟨k0, h0, h1⟩ := e1.at_ hk
      obtain ⟨v', h2, h3⟩ := A.blk i k0 h0
      exact ⟨v', h2, h1.1 _ _ _ _ _ h3⟩
    · obtain ⟨k0, h0, _⟩ := e1.at_ hi
      obtain ⟨k1, h1, _⟩ := e1.at_ hj
      exact A.inj i j k0 k1 vi vj g h0 h1

/-- What a walk ends with that was lent a block and hands back blocks of its own. -/
theorem fin_lend (hF : FnOk0 F) (hz : F.frz = false) (hnl : F.nl = 1) {w : World} {u : Value} {M0 : Mem} {r : R} {a : Act} {w' : World} {fn : Func} (hres : fn.results.toList = F.res) (h : Done F ⟨w, [u], true, noO⟩ M0 r a w') (hu : ∀ g, blockOf u = some g → g < w.heap.size) :
    ∃ v, (results fn a.tmps).run F.P w' = .ok v w' ∧ ∃ x k bl ρ' M', F.fin x (k :: bl) = some r ∧ okB k = true ∧ AnsL F.U w M0 u x k bl v w' ρ' M' := by
  obtain ⟨s, ρ, M, RA, h⟩ := h
  have R := RA.rc
  unfold finS at h
  split at h
  · cases h
  rename_i l hl
  rw [hF.hm, hz] at h
  simp only at h
  obtain ⟨vs, hr, hvs⟩ := resL_run (P := F.P) R (rs := fn.results.toList) (by rw [hres]; exact hl)
  obtain ⟨ρ1, R', hvs', _⟩ := ownL_ok (P := F.P) hF.hm (ts := F.rty) RA hvs
  obtain ⟨v, hv, hvr0⟩ := results_of (P := F.P) (a := a) (w := w') (fn := fn) hr hvs'
  have hvr := hvr0.thaw R'.rc
  clear hvs hvs' hvr0 R hl hr RA
  generalize (ownL F.P F.U F.rty l s).2 = s at h R' hvr
  generalize thaw s (oneOf (ownL F.P F.U F.rty l _).1) = x at h hvr
  have R := R'.rc
  refine ⟨v, hv, ?_⟩
  unfold finT at h
  rw [hnl] at h
  generalize metL s.env 3 [x] (List.range 1) = ids at h
  unfold finI at h
  split at h
  · rename_i hchk
    rw [hnl] at hchk
    simp only [Bool.and_eq_true] at hchk
    obtain ⟨hnd, hpre, harr⟩ := hchk
    have h0 := preB_get 1 0 ids hpre 0 (by omega)
    obtain ⟨ids', rfl⟩ : ∃ ids', ids = 0 :: ids' := by
      cases ids with
      | nil => simp at h0
      | cons c r => simp at h0; subst h0; exact ⟨r, rfl⟩
    have hρ0 : ρ1 0 = some u := (R.mr0 hF.hm).pin 0 u rfl
    have hok : ∀ (i b : Nat), (0 :: ids')[i]? = some b → okB (s.blk b) = true := fun i b hi => List.all_eq_true.1 harr b (List.mem_of_getElem? hi)
    have live : ∀ (i b : Nat), (0 :: ids')[i]? = some b → (s.blk b).live = true := by
      intro i b hi
      have := hok i b hi
      cases hb : s.blk b <;> rw [hb] at this <;> first | rfl | cases this
    have hB0 : BR F.U (⟨w, [u], true, noO⟩ : Frm).own (rhoOf (0 :: ids') ρ1) M w' u (s.blk 0) := by
      rcases (R.mr0 hF.hm).blk 0 with d | ⟨_, d⟩ | ⟨v', hv', hB⟩
      · have := hok 0 0 rfl
        rw [d] at this
        cases this
      · have := hok 0 0 rfl
        rw [d] at this
        cases this
      · rw [hρ0] at hv'
        cases hv'
        exact hB.okr hF.U (hok 0 0 rfl) fun g _ hg => hg
    have hnr : Lent1 (s.blk 0) := by
      have := hok 0 0 rfl
      cases hk : s.blk 0 with
      | cells t cs => rw [hk] at this; exact this
      | arr t xs => trivial
      | dead => rw [hk] at this; cases this
      | frz t xs => rw [hk] at this; cases this
      | mark cs => rw [hk] at this; cases this
    refine ⟨_, s.blk 0, ids'.map s.blk, rhoOf (0 :: ids') ρ1, M, h, hok 0 0 rfl, ⟨(R.mr0 hF.hm).fr, (R.mr0 hF.hm).m0, (R.mr0 hF.hm).mo, (R.mr0 hF.hm).sub, by simp only [rhoOf, List.getElem?_cons_zero]; exact hρ0, hvr.rn hF.U (ren_ids _ _), hB0, hnr, fun i k hk => ?_, ?_, (R.mr0 hF.hm).bpw, (R.mr0 hF.hm).bpo, (R.mr0 hF.hm).kp rfl, (R.mr0 hF.hm).hpo⟩⟩
    · rw [List.getElem?_map] at hk
      cases hi : ids'[i]? with
      | none => rw [hi] at hk; cases hk
      | some b =>
        rw [hi] at hk
        simp only [Option.map_some, Option.some.injEq] at hk
        subst hk
        have hi' : (0 :: ids')[i + 1]? = some b := by rw [List.getElem?_cons_succ]; exact hi
        rcases (R.mr0 hF.hm).blk b with d | ⟨_, d⟩ | ⟨v', hv', hB⟩
        · have := hok _ _ hi'
          rw [d] at this
          cases this
        · have := hok _ _ hi'
          rw [d] at this
          cases this
        · refine ⟨v', by simp only [rhoOf, hi']; exact hv', hok _ _ hi', hB.okr hF.U (hok _ _ hi') fun g hg ho => ?_⟩
          rcases ho with h1 | ⟨v2, h1, h2⟩ | h1
          · exact h1
          rotate_left
          · exact h1.elim
          · simp only [List.mem_singleton] at h1
            subst h1
            have e := (R.mr0 hF.hm).inj b 0 v' v2 g (live _ _ hi') (live 0 0 rfl) hv' hρ0 hg h2
            have := nodup_ids hnd (i + 1) 0 b hi' (by rw [e]; rfl)
            omega
    · intro i j ki kj vi vj g hi hj ei ej gi gj
      rw [List.getElem?_map] at hi hj
      cases hbi : ids'[i]? with
      | none => rw [hbi] at hi; cases hi
      | some b =>
        cases hbj : ids'[j]? with
        | none => rw [hbj] at hj; cases hj
        | some b' =>
          have hi' : (0 :: ids')[i + 1]? = some b := by rw [List.getElem?_cons_succ]; exact hbi
          have hj' : (0 :: ids')[j + 1]? = some b' := by rw [List.getElem?_cons_succ]; exact hbj
          simp only [rhoOf, hi'] at ei
          simp only [rhoOf, hj'] at ej
          have := (R.mr0 hF.hm).inj b b' vi vj g (live _ _ hi') (live _ _ hj') ei ej gi gj
          subst this
          have := nodup_ids hnd (i + 1) (j + 1) b hi' hj'
          omega
  · cases h

/-- How a lent block is named to the walk. -/
def lentArg (sh : Bool) : Blk T → SV T
  | .arr _ _ => match sh with | true => .agg [.own 0] | false => .own 0
  | _ => .ptr 0 0
def shOk (sh : Bool) : Blk T → Prop
  | .arr _ _ => True
  | _ => sh = false

theorem oneCell_of_br {U : Univ T} {O : Nat → Prop} {ρ : Nat → Option Value} {M : Mem} {w : World} {u : Value} {t : Nat} {xs : List (T t)} (h : BR U O ρ M w u (.arr t xs)) : u.oneCell' = true := by
  obtain ⟨cl', ⟨_, h1⟩, _⟩ := h
  rcases h1 with ⟨rfl, _⟩ | ⟨g, cap, cur, rfl, _⟩ <;> rfl

/-- The walk of a function that is lent a block. -/
theorem walk_lend (hF : FnOk0 F) (hnl : F.nl = 1) {Q : Value → World → Prop} {n : Nat} {fn : Func} {body : Code} (hfn : F.P.funcs[n]? = some fn) (hb : fn.body = some body)
    (hnt : fn.ntmps = F.nt) {sh : Bool} {k : Blk T} {l : List (SV T)} {w : World} {M : Mem} {u : Value} {vs : List Value} {i j : Nat} {r : R} (hsub : ∀ b o v, M b o = some v → w.cell? ⟨b, o, none⟩ = some v) (hbp : BpOk F.U w M) (hE : F.U.E = false → M.bp = none)
    (hB : BR F.U (fun _ => True) (fun _ => none) M w u k) (hkn : Lent1 k) (hsh : shOk sh k) (hvs : VRs F.U (fun _ => none) M l vs) (hlen : l.length + 1 ≤ F.nt)
    (hev : ev F (evJ F i j) i [.code body] ⟨initS (lentArg sh k :: l) 0, [(0, k)], 1⟩ = some r)
    (hend : (∀ g, blockOf u = some g → g < w.heap.size) → ∀ a' w', Done F ⟨w, [u], true, noO⟩ M r a' w' → ∃ v, (results fn a'.tmps).run F.P w' = .ok v w' ∧ Q v w') :
    Calls F.P n (wrapV sh u :: vs).toArray w fun e w' => ∃ v, e = .returned v ∧ Q v w' := by
  have hblk : ∀ b, (St.blk (⟨initS (lentArg sh k :: l) 0, [(0, k)], 1⟩ : St T) b) = if b = 0 then k else .dead := by
    intro b
    show look .dead b [(0, k)] = _
    cases b <;> rfl
  have hB1 : BR F.U (⟨w, [u], true, noO⟩ : Frm).own (rho1 u) M w u k := by
    cases k with
    | dead => exact False.elim hkn
    | mark cs => exact False.elim hkn
    | frz t xs => exact False.elim hkn
    | cells t cs =>
      obtain ⟨g, us, e, _, h2, h3, h4⟩ := hB
      exact ⟨g, us, e, .inr (.inl ⟨u, by simp, by rw [e]; rfl⟩), h2, ⟨h3.len, h3.one, fun i k1 k2 => (h3.at_ i k1 k2).nr1 hF.U (List.all_eq_true.1 hkn _ (List.getElem_mem k1))⟩, h4⟩
    | arr t xs =>
      obtain ⟨cl', h1, h2, h3, _⟩ := hB
      exact ⟨cl', h1, h2.nr_ hF.U, h3, fun g hg => .inr (.inl ⟨u, by simp, blockOf_own hg⟩)⟩
  have hx0 : VR F.U (rho1 u) M (lentArg sh k) (wrapV sh u) := by
    cases k with
    | dead => exact False.elim hkn
    | mark cs => exact False.elim hkn
    | frz t xs => exact False.elim hkn
    | cells t cs =>
      obtain rfl : sh = false := hsh
      obtain ⟨g, us, e, _⟩ := hB
      subst e
      exact .ptr 0 g 0 rfl
    | arr t xs =>
      have ho := oneCell_of_br hB
      have key : VR F.U (rho1 u) M (.own 0) u := by
        obtain ⟨cl', ⟨_, h1⟩, _⟩ := hB
        rcases h1 with ⟨rfl, _⟩ | ⟨g, cap, cur, rfl, _⟩
        · exact .own 0 _ _ _ rfl
        · exact .own 0 _ _ _ rfl
      cases sh with
      | false => exact key
      | true => exact .agg [.own 0] [u] rfl (by simpa using ho) fun i h1 h2 => (by
          have : i = 0 := by simpa using h1
          subst this
          exact key)
  have hlt : ∀ g, blockOf u = some g → g < w.heap.size := by
    intro g hg
    cases k with
    | dead => exact False.elim hkn
    | mark cs => exact False.elim hkn
    | frz t xs => exact False.elim hkn
    | cells t cs =>
      obtain ⟨g', us, rfl, _, h2, _⟩ := hB
      simp only [blockOf, Option.some.injEq] at hg
      subst hg
      exact (Array.getElem?_eq_some_iff.1 h2).1
    | arr t xs =>
      obtain ⟨cl', h1, _⟩ := hB
      exact (own_block_lt h1 hg).2.2
  have hl0 : LeR (fun _ => none) (rho1 u) := fun b v h => by cases h
  exact walk_of (hx0 := .nil hF.hm) (env0 := [(0, k)]) (nb := 1) (pins := [u]) (kp := true) (ow := noO) (ρ0 := rho1 u) (w := w) (M := M) (l := lentArg sh k :: l) (vs := wrapV sh u :: vs) hF.toFnOk hfn hb hnt (by rw [hnl]; exact Nat.le_refl _)
    ⟨⟨rfl, rfl, rfl, Nat.le_refl _, fun _ _ => rfl⟩, fun i v h => (by
        cases i with
        | zero => simpa [rho1] using h
        | succ i => simp at h), .refl _, fun _ _ _ => rfl, hsub, fun b => (by
        rw [hblk]
        by_cases e : b = 0
        · subst e; exact .inr (.inr ⟨u, rfl, hB1⟩)
        · rw [if_neg e]; exact .inl rfl), (fun b b' v v' g h1 h2 _ _ _ _ => by
        rw [hblk] at h1 h2
        by_cases e : b = 0
        · by_cases e' : b' = 0
          · omega
          · rw [if_neg e'] at h2; cases h2
        · rw [if_neg e] at h1; cases h1), hbp, (fun B hB g x hx => .inl ⟨B, hB, hx⟩), (fun _ => rfl), (fun _ h => by
        rw [hblk, if_neg (by decide)] at h; cases h), hE, rfl⟩
    (fun b hb => by simp [rho1]; omega) (VRs.cons hx0 ⟨hvs.1, fun i h1 h2 => (hvs.2 i h1 h2).mono hl0 (.refl _)⟩) (by simpa using hlen) hev (hend hlt)

/-- The contract of a function that is lent a block. -/
theorem sndL_of (hF : FnOk0 F) (hz : F.frz = true) (hnl : F.nl = 1) {n : Nat} {fn : Func} {body : Code} {sh : Bool} {Fw : Blk T → List (SV T) → Option (CallRes T)} (hfn : F.P.funcs[n]? = some fn) (hname : (fn.name == "runtime.NumGoroutine") = false) (hb : fn.body = some body)
    (hnt : fn.ntmps = F.nt) (hres : fn.results.toList = F.res)
    (h : ∀ k l c x, Fw k l = some c → c.run = some x → ∃ k2 l', BlkTo F.U k k2 ∧ shOk sh k2 ∧ (∀ ρ M vs, VRs F.U ρ M l vs → VRs F.U ρ M l' vs) ∧ l'.length + 1 ≤ F.nt ∧ ∃ (i j : Nat) (r : R), ev F (evJ F i j) i [.code body] ⟨initS (lentArg sh k2 :: l') 0, [(0, k2)], 1⟩ = some r ∧
      ∀ p k', F.fin p [k'] = some r → ∃ k3, (c.out x).2 = [k3] ∧ BlkTo F.U k' k3 ∧ ∀ ρ M v, VR F.U ρ M p v → VR F.U ρ M (c.out x).1 v) : SndL F.P F.U n sh Fw where
  enter := ⟨fn, hfn, hname, by rw [hb]; rfl⟩
  run := by
    intro k0 l0 c x hl hx w M u vs hsub hbp hE hB0 hkn0 hvs0
    obtain ⟨k, l, hkk, hsh, hk, hlen, i, j, r, hev, hout⟩ := h k0 l0 c x hl hx
    have C := walk_lend hF hnl hfn hb hnt hsub hbp hE (hkk.1 _ _ _ _ _ hB0) (hkk.2 hkn0) hsh (hk _ _ _ hvs0) hlen hev (fun _ a' w' hd => fin_frz hF hz hres hd)
    refine C.mono ?_
    rintro e w' ⟨v, he, p, bl, s, ρ, M', hfin, hbl, hmr, hv⟩
    rw [hnl] at hbl
    have hl0 : LeR (fun _ => none) (rho1 u) := fun b v h => by cases h
    have hρ0 : ρ 0 = some u := hmr.pin 0 u rfl
    have key : ∃ k', bl = [k'] ∧ s.blk 0 = k' ∧ Lent1 k' := by
      unfold lentC at hbl
      simp only at hbl
      split at hbl
      · rename_i t cs hs
        split at hbl
        · rename_i hc
          cases hbl
          exact ⟨_, rfl, hs, hc⟩
        · cases hbl
      · rename_i t xs hs
        cases hbl
        exact ⟨_, rfl, hs, trivial⟩
      · cases hbl
    obtain ⟨k', rfl, hs0, hkn'⟩ := key
    obtain ⟨k3, e1, e3, e2⟩ := hout p k' hfin
    refine ⟨v, k3, [], rho1 u, M', he, e1, hmr.fr, hmr.m0, hmr.mo, hmr.sub, rfl, (e2 _ _ _ hv).mono hl0 (.refl _), e3.1 _ _ _ _ _ ?_, e3.2 hkn', (fun i k hk => by simp at hk), (fun i j ki kj vi vj g hi => by simp at hi), hmr.bpw, hmr.bpo, hmr.kp rfl, hmr.hpo⟩
    rcases hmr.blk 0 with d | ⟨_, d⟩ | ⟨v', hv', hB'⟩
    · rw [hs0] at d
      rw [d] at hkn'
      exact False.elim hkn'
    · rw [hs0] at d
      rw [d] at hkn'
      exact False.elim hkn'
    · rw [hρ0] at hv'
      cases hv'
      rw [hs0] at hB'
      refine hB'.okr hF.U ?_ fun g _ hg => hg
      cases k' with
      | dead => exact False.elim hkn'
      | mark cs => exact False.elim hkn'
      | frz t xs => exact False.elim hkn'
      | cells t cs => exact hkn'
      | arr t xs => rfl

/-- The contract of a function that is lent a block and hands back blocks of its own. -/
theorem sndLK_of (hF : FnOk0 F) (hz : F.frz = false) (hnl : F.nl = 1) {n : Nat} {fn : Func} {body : Code} {sh : Bool} {Fw : Blk T → List (SV T) → Option (CallRes T)} (hfn : F.P.funcs[n]? = some fn) (hname : (fn.name == "runtime.NumGoroutine") = false) (hb : fn.body = some body)
    (hnt : fn.ntmps = F.nt) (hres : fn.results.toList = F.res)
    (h : ∀ k l c x, Fw k l = some c → c.run = some x → ∃ k2 l', BlkTo F.U k k2 ∧ shOk sh k2 ∧ (∀ ρ M vs, VRs F.U ρ M l vs → VRs F.U ρ M l' vs) ∧ l'.length + 1 ≤ F.nt ∧ ∃ (i j : Nat) (r : R), ev F (evJ F i j) i [.code body] ⟨initS (lentArg sh k2 :: l') 0, [(0, k2)], 1⟩ = some r ∧
      ∀ p k' bl, F.fin p (k' :: bl) = some r → ∃ k3 bl3, (c.out x).2 = k3 :: bl3 ∧ BlkTo F.U k' k3 ∧ BlksTo F.U bl bl3 ∧ (∀ k ∈ bl3, okB k = true) ∧ ∀ ρ M v, VR F.U ρ M p v → VR F.U ρ M (c.out x).1 v) : SndL F.P F.U n sh Fw where
  enter := ⟨fn, hfn, hname, by rw [hb]; rfl⟩
  run := by
    intro k0 l0 c x hl hx w M u vs hsub hbp hE hB0 hkn0 hvs0
    obtain ⟨k, l, hkk, hsh, hk, hlen, i, j, r, hev, hout⟩ := h k0 l0 c x hl hx
    have C := walk_lend hF hnl hfn hb hnt hsub hbp hE (hkk.1 _ _ _ _ _ hB0) (hkk.2 hkn0) hsh (hk _ _ _ hvs0) hlen hev (fun hu a' w' hd => fin_lend hF hz hnl hres hd hu)
    refine C.mono ?_
    rintro e w' ⟨v, he, p, k', bl, ρ', M', hfin, hok, A⟩
    obtain ⟨k3, bl3, e1, e3, e4, e5, e2⟩ := hout p k' bl hfin
    refine ⟨v, k3, bl3, ρ', M', he, e1, A.bel, A.le, A.old, A.sub, A.r0, e2 _ _ _ A.vr, e3.1 _ _ _ _ _ A.blk, e3.2 A.nr, fun i k hk => ?_, fun i j ki kj vi vj g hi hj => ?_, A.bpw, A.bpo, A.kp, A.hpe⟩
    · obtain ⟨k0, h0, h1⟩ := e4.at_ hk
      obtain ⟨v', h2, _, h3⟩ := A.blks i k0 h0
      exact ⟨v', h2, e5 k (List.mem_of_getElem? hk), h1.1 _ _ _ _ _ h3⟩
    · obtain ⟨k0, h0, _⟩ := e4.at_ hi
      obtain ⟨k1, h1, _⟩ := e4.at_ hj
      exact A.inj i j k0 k1 vi vj g h0 h1
/-! ### A function in which the known blocks are told, and forgotten -/
def offE (U : Univ T) : Univ T := ⟨U.sz, U.dflt, U.enc, U.dec, U.u8, U.em, false, U.hm⟩
def onM (M : Mem) : Mem := ⟨M.pin, some fun _ => none, M.hp⟩
def offM (M : Mem) : Mem := ⟨M.pin, none, M.hp⟩
theorem VR.off {U : Univ T} {ρ : Nat → Option Value} {M : Mem} {x : SV T} {v : Value} (h : VR U ρ M x v) : VR (offE U) ρ M x v := by
  induction h with
  | any x => exact .any x
  | v x => exact .v x
  | row t xs A c f hc h0 hs hm hf hv he ih => exact .row t xs A c f hc h0 hs hm hf ih he
  | sub t xs A c f hc h0 hs hm hf hv ih => exact .sub t xs A c f hc h0 hs hm hf ih
  | own b a n c h => exact .own b a n c h
  | ptr b g off h => exact .ptr b g off h
  | eptr b g n c t i off h => exact .eptr b g n c t i off h
  | rptr t xs i off g o f h0 h1 hm hf hv ih => exact .rptr t xs i off g o f h0 h1 hm hf ih
  | hnd0 t => exact .hnd0 t
  | hnd t j a n c h => exact .hnd t j a n c h
  | hptr j g n c t i off h => exact .hptr j g n c t i off h
  | agg l vs hl hf h ih => exact .agg l vs hl hf ih
  | tup l vs hl h ih => exact .tup l vs hl ih
theorem LeM.off (M : Mem) : LeM M (offM M) := ⟨fun _ _ _ h => h, fun B h => (by cases h), fun _ _ h => h⟩
theorem BR.off {U : Univ T} {O : Nat → Prop} {ρ : Nat → Option Value} {M : Mem} {w : World} {u : Value} {k : Blk T} (h : BR U O ρ M w u k) : BR (offE U) O ρ (offM M) w u k := by
  cases k with
  | dead => trivial
  | mark cs => exact h
  | cells t cs =>
    obtain ⟨g, vs, e, h1, h2, h3, h4⟩ := h
    exact ⟨g, vs, e, h1, h2, ⟨h3.len, h3.one, fun i k1 k2 => ((h3.at_ i k1 k2).off).mono (.refl _) (.off _)⟩, h4.1, fun B hB => by cases hB⟩
  | arr t xs =>
    obtain ⟨cl, h1, h2, h3, h4⟩ := h
    exact ⟨cl, h1, ⟨h2.len, h2.one, fun i k1 k2 => ((h2.at_ i k1 k2).off).mono (.refl _) (.off _)⟩, fun g hg => ⟨(h3 g hg).1, fun B hB => by cases hB⟩, h4⟩
  | frz t xs => exact ⟨h.1, h.2.off.mono (.refl _) (.off _)⟩
/-- A block whose contents bear no row that must be known. -/
def EmFree (U : Univ T) (k : Blk T) : Prop := ∀ O ρ M w u, M.bp = none → BR (offE U) O ρ M w u k → BR U O ρ (onM M) w u k

theorem sndL_drop (hF : FnOk0 F) (hU0 : UOk (offE F.U)) (hz : F.frz = true) (hnl : F.nl = 1) (hUE : F.U.E = true) (hem : F.U.em ≠ none) {n : Nat} {fn : Func} {body : Code} {Fw : Blk T → List (SV T) → Option (CallRes T)} (hfn : F.P.funcs[n]? = some fn) (hname : (fn.name == "runtime.NumGoroutine") = false) (hb : fn.body = some body)
    (hnt : fn.ntmps = F.nt) (hres : fn.results.toList = F.res) (hnt1 : 1 ≤ F.nt)
    (h : ∀ k l c x, Fw k l = some c → c.run = some x → ∃ k2, l = [] ∧ BlkTo (offE F.U) k k2 ∧ shOk false k2 ∧ EmFree F.U k2 ∧ ∃ (i j : Nat) (r : R), ev F (evJ F i j) i [.code body] ⟨initS [lentArg false k2] 0, [(0, k2), (MKB, .mark [])], 1⟩ = some r ∧
      ∀ p k', F.fin p [k'] = some r → ∃ k3, (c.out x).2 = [k3] ∧ BlkTo (offE F.U) k' k3 ∧ ∀ ρ M v, VR (offE F.U) ρ M p v → VR (offE F.U) ρ M (c.out x).1 v) : SndL F.P (offE F.U) n false Fw where
  enter := ⟨fn, hfn, hname, by rw [hb]; rfl⟩
  run := by
    intro k0 l0 c x hl hx w M u vs hsub _ hE hB0 hkn0 hvs0
    obtain ⟨k, rfl, hkk, hsh, hef, i, j, r, hev, hout⟩ := h k0 l0 c x hl hx
    have hMb : M.bp = none := hE rfl
    obtain rfl : vs = [] := by have := hvs0.1; exact List.eq_nil_of_length_eq_zero this.symm
    have hkn : Lent1 k := hkk.2 hkn0
    have hB := hef _ _ _ _ _ hMb (hkk.1 _ _ _ _ _ hB0)
    have hblk : ∀ b, (St.blk (⟨initS [lentArg false k] 0, [(0, k), (MKB, .mark [])], 1⟩ : St T) b) = if b = 0 then k else if b = MKB then .mark [] else .dead := by
      intro b
      show look .dead b [(0, k), (MKB, .mark [])] = _
      have : ∀ (y : Blk T) (m : Nat) (l : List (Nat × Blk T)), look .dead b ((m, y) :: l) = if b = m then y else look .dead b l := by
        intro y m l
        simp only [look]
        by_cases e : b = m
        · subst e; simp
        · have hb' : Nat.beq m b = false := by
            cases hb2 : Nat.beq m b
            · rfl
            · exact absurd (Nat.eq_of_beq_eq_true hb2).symm e
          rw [hb', if_neg e]
      rw [this, this]
      rfl
    have hB1 : BR F.U (⟨w, [u], false, noO⟩ : Frm).own (rho1 u) (onM M) w u k := by
      cases k with
      | dead => exact False.elim hkn
      | mark cs => exact False.elim hkn
      | frz t xs => exact False.elim hkn
      | cells t cs =>
        obtain ⟨g, us, e, _, h2, h3, h4⟩ := hB
        exact ⟨g, us, e, .inr (.inl ⟨u, by simp, by rw [e]; rfl⟩), h2, ⟨h3.len, h3.one, fun i k1 k2 => (h3.at_ i k1 k2).nr1 hF.U (List.all_eq_true.1 hkn _ (List.getElem_mem k1))⟩, h4⟩
      | arr t xs =>
        obtain ⟨cl', h1, h2, h3, _⟩ := hB
        exact ⟨cl', h1, h2.nr_ hF.U, h3, fun g hg => .inr (.inl ⟨u, by simp, blockOf_own hg⟩)⟩
    have hx0 : VR F.U (rho1 u) (onM M) (lentArg false k) u := by
      cases k with
      | dead => exact False.elim hkn
      | mark cs => exact False.elim hkn
      | frz t xs => exact False.elim hkn
      | cells t cs =>
        obtain ⟨g, us, e, _⟩ := hB
        subst e
        exact .ptr 0 g 0 rfl
      | arr t xs =>
        obtain ⟨cl', ⟨_, h1⟩, _⟩ := hB
        rcases h1 with ⟨rfl, _⟩ | ⟨g, cap, cur, rfl, _⟩
        · exact .own 0 _ _ _ rfl
        · exact .own 0 _ _ _ rfl
    have C := walk_of (hx0 := .nil hF.hm) (env0 := [(0, k), (MKB, .mark [])]) (nb := 1) (pins := [u]) (kp := false) (ow := noO) (ρ0 := rho1 u) (w := w) (M := onM M) (l := [lentArg false k]) (vs := [u]) hF.toFnOk hfn hb hnt (by rw [hnl]; exact Nat.le_refl _)
      ⟨⟨rfl, rfl, rfl, Nat.le_refl _, fun _ _ => rfl⟩, fun i v h => (by
          cases i with
          | zero => simpa [rho1] using h
          | succ i => simp at h), .refl _, fun _ _ _ => rfl, hsub, fun b => (by
          rw [hblk]
          by_cases e : b = 0
          · subst e; exact .inr (.inr ⟨u, rfl, hB1⟩)
          · rw [if_neg e]
            by_cases e2 : b = MKB
            · rw [if_pos e2]; exact .inr (.inl ⟨_, rfl⟩)
            · rw [if_neg e2]; exact .inl rfl), (fun b b' v v' g h1 h2 _ _ _ _ => by
          rw [hblk] at h1 h2
          have z : ∀ b, ((if b = 0 then k else if b = MKB then .mark [] else .dead : Blk T)).live = true → b = 0 := by
            intro b h
            by_cases e : b = 0
            · exact e
            · rw [if_neg e] at h
              by_cases e2 : b = MKB
              · rw [if_pos e2] at h; cases h
              · rw [if_neg e2] at h; cases h
          rw [z b h1, z b' h2]), (fun B hB => by
          cases hB
          obtain ⟨e, he⟩ := Option.ne_none_iff_exists'.1 hem
          exact ⟨e, he, fun g n c hg => by cases hg⟩), (fun B hB g x hx => by cases hB; cases hx), (fun h => by cases h), (fun _ _ => ⟨rfl, rfl, fun B g x hB hx => by cases hB; cases hx⟩), (fun h => by rw [hUE] at h; cases h), rfl⟩
      (fun b hb => by simp [rho1]; omega) (VRs.cons hx0 ⟨rfl, fun i h => by simp at h⟩) (by simpa using hnt1) hev (fun a' w' hd => fin_frz hF hz hres hd)
    refine Calls.mono (show Calls F.P n (wrapV false u :: []).toArray w _ from C) ?_
    rintro e w' ⟨v, he, p, bl, s, ρ, M', hfin, hbl, hmr, hv⟩
    rw [hnl] at hbl
    have hl0 : LeR (fun _ => none) (rho1 u) := fun b v h => by cases h
    have hρ0 : ρ 0 = some u := hmr.pin 0 u rfl
    have key : ∃ k', bl = [k'] ∧ s.blk 0 = k' ∧ Lent1 k' := by
      unfold lentC at hbl
      simp only at hbl
      split at hbl
      · rename_i t cs hs
        split at hbl
        · rename_i hc
          cases hbl
          exact ⟨_, rfl, hs, hc⟩
        · cases hbl
      · rename_i t xs hs
        cases hbl
        exact ⟨_, rfl, hs, trivial⟩
      · cases hbl
    obtain ⟨k', rfl, hs0, hkn'⟩ := key
    obtain ⟨k3, e1, e3, e2⟩ := hout p k' hfin
    refine ⟨v, k3, [], rho1 u, offM M', he, e1, ⟨hmr.fr.os, hmr.fr.tape, hmr.fr.output, hmr.fr.size, hmr.fr.block⟩, ⟨fun b o v h => hmr.m0.pin b o v h, fun B h => (by cases h), fun j v h => hmr.m0.hp j v h⟩, hmr.mo, hmr.sub, rfl, (e2 _ _ _ (hv.off.mono hl0 (.off _))), e3.1 _ _ _ _ _ ?_, e3.2 hkn', (fun i k hk => by simp at hk), (fun i j ki kj vi vj g hi => by simp at hi), BpOk.none_ rfl, (fun B h => by cases h), (by rw [hMb]; rfl), hmr.hpo⟩
    rcases hmr.blk 0 with d | ⟨_, d⟩ | ⟨v', hv', hB'⟩
    · rw [hs0] at d
      rw [d] at hkn'
      exact False.elim hkn'
    · rw [hs0] at d
      rw [d] at hkn'
      exact False.elim hkn'
    · rw [hρ0] at hv'
      cases hv'
      rw [hs0] at hB'
      refine hB'.off.okr hU0 ?_ fun g _ hg => hg
      cases k' with
      | dead => exact False.elim hkn'
      | mark cs => exact False.elim hkn'
      | frz t xs => exact False.elim hkn'
      | cells t cs => exact hkn'
      | arr t xs => rfl

/-! ### A heap of handles, lent -/
/-- What a walk ends with that was lent a heap of handles. -/
theorem fin_hp (hF : FnOk F) (hm : F.U.hm = true) {w0 : Frm} {M0 : Mem} {r : R} {a : Act} {w : World} {fn : Func} (hres : fn.results.toList = F.res) (h : Done F w0 M0 r a w) :
    ∃ v, (results fn a.tmps).run F.P w = .ok v w ∧ ∃ x bl s ρ M', F.fin x (s.blk PLB :: bl) = some r ∧ lentC F.nl s = some bl ∧ MR F.U w0 (M0.wh M') s.blk ρ M' w ∧ HX F.U w0 M0 s.blk ρ M' w ∧ VR F.U noR0 M' x v := by
  obtain ⟨s, ρ, M, RA, h⟩ := h
  have R := RA.rc
  unfold finS at h
  split at h
  · cases h
  rename_i l hl
  rw [hm] at h
  simp only at h
  split at h
  · cases h
  rename_i hnr
  split at h
  · cases h
  rename_i bl hbl
  obtain ⟨vs, hrs, hvs⟩ := resL_run (P := F.P) R (rs := fn.results.toList) (l := l) (by rw [hres]; exact hl)
  obtain ⟨v, hv, hvr⟩ := results_of (P := F.P) (fn := fn) (ρ := noR0) hrs (hvs.nr_ hF.U hnr)
  exact ⟨v, hv, _, bl, s, ρ, M, h, hbl, R.mr, R.hx, hvr⟩

/-- The state at the start of a function that is lent a heap of handles. -/
def stP (ln : Bool) (k : Blk T) (cs : List (Cell T)) (l : List (SV T)) : St T := match ln with
  | false => ⟨initS l 0, [(PLB, .mark cs)], 0⟩
  | true => ⟨initS (.ptr 0 0 :: l) 0, [(0, k), (PLB, .mark cs)], 1⟩
def nlP : Bool → Nat
  | false => 0
  | true => 1
def rhoP (us : List Value) : Nat → Option Value := match us with
  | [] => noR0
  | u :: _ => rho1 u

theorem cell_live (c : Cell T) : c.blk.live = c.live := by cases c <;> rfl

theorem start_hp {U : Univ T} {w : World} {M : Mem} {cs : List (Cell T)} {O : Nat → Prop} {us : List Value} {e : Nat → Blk T} {ρ : Nat → Option Value} (hbp : M.bp = none) (hP : Pool U O M w cs) (hpl : e PLB = .mark cs) (hmk : isMark (e MKB) = false)
    (hl : ∀ b v g, (e b).live = true → ρ b = some v → blockOf v = some g → ¬ lvO M cs g) : HX U (frmP w us M cs) M e ρ M w where
  le := fun _ _ h => h
  off := fun _ => rfl
  on := fun _ => ⟨cs, hpl, ⟨fun j c hj => (hP.cell j c hj).imp id fun ⟨v, h1, h2⟩ => ⟨v, h1, h2.lower' fun g k1 k2 _ => .inr (.inr ⟨j, c, v, hj, (by rw [← cell_live]; exact k1), h1, k2⟩)⟩, hP.fresh, hP.inj,
    fun j c b vj vb g h1 h2 h3 h4 h5 h6 h7 => hl b vb g h3 h5 h7 ⟨j, c, vj, h1, h2, h4, h6⟩, hbp, hmk, fun j c v g h1 h2 h3 h4 => ⟨(hP.old j c v g h1 h2 h3 h4).1, .inr (.inr ⟨j, c, v, h1, h2, h3, h4⟩)⟩⟩⟩

/-- The contract of a function that is lent a heap of handles (ln: and a block). -/
theorem sndP_of (hF : FnOk F) (hm : F.U.hm = true) {ln : Bool} (hnl : F.nl = nlP ln) {n : Nat} {fn : Func} {body : Code} {Fw : Blk T → List (Cell T) → List (SV T) → Option (CallRes T)} (hfn : F.P.funcs[n]? = some fn) (hname : (fn.name == "runtime.NumGoroutine") = false) (hb : fn.body = some body)
    (hnt : fn.ntmps = F.nt) (hres : fn.results.toList = F.res)
    (h : ∀ k cs l c x, Fw k cs l = some c → c.run = some x → ∃ k2 l', (ln = true → BlkTo F.U k k2 ∧ ∃ t ks, k2 = .cells t ks) ∧ (∀ ρ M vs, VRs F.U ρ M l vs → VRs F.U ρ M l' vs) ∧ l'.length + nlP ln ≤ F.nt ∧ ∃ (i j : Nat) (r : R), ev F (evJ F i j) i [.code body] (stP ln k2 cs l') = some r ∧
      ∀ p cs' ks, F.fin p (.mark cs' :: ks) = some r → ∃ ks3, (c.out x).2 = .mark cs' :: ks3 ∧ BlksTo F.U ks ks3 ∧ ∀ ρ M v, VR F.U ρ M p v → VR F.U ρ M (c.out x).1 v) : SndP F.P F.U n ln Fw where
  enter := ⟨fn, hfn, hname, by rw [hb]; rfl⟩
  run := by
    intro k cs l0 c x hl hx w M O us vs hsub hbp hP hL hvs0
    obtain ⟨k2, l, hk2, hk, hlen, i, j, r, hev, hout⟩ := h k cs l0 c x hl hx
    have hvs := hk _ _ _ hvs0
    have fin : ∀ a' w', Done F (frmP w us M cs) M r a' w' → ∃ v, (results fn a'.tmps).run F.P w' = .ok v w' ∧ ∃ M' cs' ks, (c.out x).2 = .mark cs' :: ks ∧ AnsP F.U w us M cs (c.out x).1 cs' ks v w' M' := by
      intro a' w' hd
      obtain ⟨v, hv, p, bl, s, ρ, M', hfin, hbl, mr, hx', hvr⟩ := fin_hp hF hm hres hd
      obtain ⟨cs', e, PR⟩ := hx'.on hm
      rw [e] at hfin
      obtain ⟨ks3, e1, e2, e3⟩ := hout p cs' bl hfin
      refine ⟨v, hv, M', cs', ks3, e1, ⟨mr.fr, ⟨mr.m0.pin, fun B hB => (by rw [PR.bp] at hB; cases hB), hx'.le⟩, mr.mo, mr.sub, e3 _ _ _ hvr, ⟨PR.cell, PR.fresh, PR.inj, PR.old⟩, PR.bp, fun u hu => ?_, fun hu => ?_⟩⟩
      · subst hu
        cases ln with
        | false => cases hL
        | true =>
        rw [hnl] at hbl
        have hρ0 : ρ 0 = some u := mr.pin 0 u rfl
        have key : ∃ k', bl = [k'] ∧ s.blk 0 = k' ∧ Lent1 k' := by
          unfold lentC nlP at hbl
          simp only at hbl
          split at hbl
          · rename_i t cs hs
            split at hbl
            · rename_i hc
              cases hbl
              exact ⟨_, rfl, hs, hc⟩
            · cases hbl
          · rename_i t xs hs
            cases hbl
            exact ⟨_, rfl, hs, trivial⟩
          · cases hbl
        obtain ⟨k', rfl, hs0, hkn'⟩ := key
        match ks3, e2 with
        | [k3], e2 =>
        refine ⟨k3, rfl, e2.1.2 hkn', ?_, fun g hg ⟨j, cc, vj, k1, k2, k3, k4⟩ => PR.apart j cc 0 vj u g k1 k2 ?_ k3 hρ0 k4 hg⟩
        · rcases mr.blk 0 with d | ⟨_, d⟩ | ⟨v', hv', hB'⟩
          · rw [hs0] at d; rw [d] at hkn'; exact False.elim hkn'
          · rw [hs0] at d; rw [d] at hkn'; exact False.elim hkn'
          · rw [hρ0] at hv'
            cases hv'
            rw [hs0] at hB'
            refine e2.1.1 _ _ _ _ _ (hB'.okr hF.U ?_ fun g _ hg => hg)
            cases k' with
            | dead => exact False.elim hkn'
            | mark cs => exact False.elim hkn'
            | frz t xs => exact False.elim hkn'
            | cells t cs => exact hkn'
            | arr t xs => rfl
        · rw [hs0]
          revert hkn'
          cases k' <;> intro hkn' <;> first | rfl | exact False.elim hkn'
      · subst hu
        cases ln with
        | true => obtain ⟨u, hu, _⟩ := hL; cases hu
        | false =>
        rw [hnl] at hbl
        obtain rfl : bl = [] := by simpa [lentC, nlP] using hbl.symm
        match ks3, e2 with
        | [], _ => rfl
    have base : (∀ (env0 : List (Nat × Blk T)) (nb : Nat) (ρ0 : Nat → Option Value), MR F.U (frmP w us M cs) M (St.blk (⟨[], env0, nb⟩ : St T)) ρ0 M w → True) := fun _ _ _ _ => trivial
    clear base
    cases ln with
    | false =>
      cases hL
      have blk0 : ∀ b, (St.blk (⟨initS l 0, [(PLB, .mark cs)], 0⟩ : St T) b) = if PLB = b then .mark cs else .dead := fun b => blk_put1 (⟨initS l 0, [], 0⟩ : St T) PLB (.mark cs) b
      have C := walk_of (hx0 := start_hp (us := []) hbp hP (by rw [blk0, if_pos rfl]) (by rw [blk0, if_neg (by decide)]; rfl) (fun b v g h1 h2 => by cases h2)) (env0 := [(PLB, .mark cs)]) (nb := 0) (pins := []) (kp := true) (ow := lvO M cs) (ρ0 := noR0) (w := w) (M := M) hF hfn hb hnt (Nat.zero_le _)
        ⟨⟨rfl, rfl, rfl, Nat.le_refl _, fun _ _ => rfl⟩, fun i v h => by simp at h, .refl _, fun _ _ _ => rfl, hsub, fun b => (by
          rw [blk0]
          by_cases e : PLB = b
          · rw [if_pos e]; exact .inr (.inl ⟨_, rfl⟩)
          · rw [if_neg e]; exact .inl rfl), (fun b b' v v' g h1 h2 e1 => by cases e1), BpOk.none_ hbp, (fun B hB g x hx => .inl ⟨B, hB, hx⟩), (fun _ => rfl), (fun _ h => by rw [blk0, if_neg (by decide)] at h; cases h), (fun _ => hbp), rfl⟩ (fun _ _ => rfl) hvs (by simpa [nlP] using hlen) hev fin
      refine C.mono ?_
      rintro e w' ⟨v, he, M', cs', ks, h1, h2⟩
      exact ⟨v, M', cs', ks, he, h1, h2⟩
    | true =>
      obtain ⟨u, rfl, hB, hkn, hap⟩ := hL
      obtain ⟨hkk, t, ks, rfl⟩ := hk2 rfl
      have hB := hkk.1 _ _ _ _ _ hB
      have hkn : ks.all nr1 = true := hkk.2 hkn
      have blk0 : ∀ b, (St.blk (⟨initS (.ptr 0 0 :: l) 0, [(0, .cells t ks), (PLB, .mark cs)], 1⟩ : St T) b) = if 0 = b then .cells t ks else if PLB = b then .mark cs else .dead := fun b => blk_puts2 (⟨initS (.ptr 0 0 :: l) 0, [], 1⟩ : St T) 0 PLB (.cells t ks) (.mark cs) b
      obtain ⟨g, us, rfl, _, h2, h3, h4⟩ := hB
      have live0 : ∀ b, (St.blk (⟨initS (.ptr 0 0 :: l) 0, [(0, .cells t ks), (PLB, .mark cs)], 1⟩ : St T) b).live = true → b = 0 := fun b h => by
        rw [blk0] at h
        by_cases e : 0 = b
        · exact e.symm
        · rw [if_neg e] at h
          split at h <;> cases h
      have C := walk_of (l := .ptr 0 0 :: l) (hx0 := start_hp (us := [.pointer (some ⟨g, 0, none⟩)]) hbp hP (by rw [blk0, if_neg (by decide), if_pos rfl]) (by rw [blk0, if_neg (by decide), if_neg (by decide)]; rfl) (fun b v g' h1 h2 h3 => by
          have := live0 b h1
          subst this
          cases h2
          exact hap g' h3)) (env0 := [(0, .cells t ks), (PLB, .mark cs)]) (nb := 1) (pins := [.pointer (some ⟨g, 0, none⟩)]) (kp := true) (ow := lvO M cs) (ρ0 := rho1 (.pointer (some ⟨g, 0, none⟩))) (w := w) (M := M) (vs := .pointer (some ⟨g, 0, none⟩) :: vs) hF hfn hb hnt (by rw [hnl]; exact Nat.le_refl _)
        ⟨⟨rfl, rfl, rfl, Nat.le_refl _, fun _ _ => rfl⟩, fun i v h => (by
            cases i with
            | zero => simpa [rho1] using h
            | succ i => simp at h), .refl _, fun _ _ _ => rfl, hsub, fun b => (by
          rw [blk0]
          by_cases e : 0 = b
          · subst e
            rw [if_pos rfl]
            exact .inr (.inr ⟨_, rfl, g, us, rfl, .inr (.inl ⟨.pointer (some ⟨g, 0, none⟩), List.mem_singleton.2 rfl, rfl⟩), h2, ⟨h3.len, h3.one, fun i k1 k2 => (h3.at_ i k1 k2).nr1 hF.U (List.all_eq_true.1 hkn _ (List.getElem_mem k1))⟩, h4⟩)
          · rw [if_neg e]
            by_cases e : PLB = b
            · rw [if_pos e]; exact .inr (.inl ⟨_, rfl⟩)
            · rw [if_neg e]; exact .inl rfl), (fun b b' v v' g h1 h2 _ _ _ _ => (live0 b h1).trans (live0 b' h2).symm), BpOk.none_ hbp, (fun B hB g x hx => .inl ⟨B, hB, hx⟩), (fun _ => rfl), (fun _ h => by rw [blk0, if_neg (by decide), if_neg (by decide)] at h; cases h), (fun _ => hbp), rfl⟩ (fun b hb => by simp [rho1]; omega) (VRs.cons (.ptr 0 g 0 rfl) ⟨hvs.1, fun i h1 h2 => (hvs.2 i h1 h2).mono (fun _ _ h => by cases h) (.refl _)⟩) (by simpa [nlP] using hlen) hev fin
      refine C.mono ?_
      rintro e w' ⟨v, he, M', cs', ks, h1, h2⟩
      exact ⟨v, M', cs', ks, he, h1, h2⟩

/-- A function that leaves the heap as it was. -/
theorem sndQ_of {P : Program} {U : Univ T} {n : Nat} {Fw : Blk T → List (Cell T) → List (SV T) → Option (CallRes T)} {Fq : List (Cell T) → List (SV T) → Option (CallRes T)} (S : SndP P U n false Fw)
    (h : ∀ cs l c x, Fq cs l = some c → c.run = some x → ∃ c' x', Fw .dead cs l = some c' ∧ c'.run = some x' ∧ (c'.out x').2 = [.mark cs] ∧ (c'.out x').1 = (c.out x).1) : SndQ P U n Fq where
  enter := S.enter
  run := by
    intro cs l c x hl hx w M O vs hsub hbp hP hvs
    obtain ⟨c', x', h1, h2, h3, h4⟩ := h cs l c x hl hx
    have C := S.run .dead cs l c' x' h1 h2 w M O [] vs hsub hbp hP rfl hvs
    refine C.mono ?_
    rintro e w' ⟨v, M', cs', ks, he, ho, A⟩
    rw [h3] at ho
    cases ho
    exact ⟨v, M', he, h4 ▸ A⟩
end
end Go.Sx
