/- An evaluator of the model's code over symbolic values, and its soundness: part 17. No condition. -/
import Derived.Test.YtjjblclmpjaegaaSxQ
set_option linter.unusedVariables false
set_option linter.unusedSimpArgs false
namespace Go.Sx
open Go.RowKit
variable {T : Nat → Type} {U : Univ T} {P : Program}

section
variable {w0 : World} {M0 : Mem} {nt nid : Nat} {s s' : St T} {a : Act} {w : World} {ρ ρ' : Nat → Option Value} {M : Mem}

theorem VR.thaw1 (R : Rc U w0 M0 nt s a w ρ M) {x : SV T} {v : Value} (h : VR U ρ M x v) : VR U ρ M (thaw1 s x) v := by
  cases x with
  | own b =>
    simp only [Sx.thaw1]
    split
    · rename_i t xs hb
      cases h with
      | own _ A n cp hρ =>
        obtain ⟨v', hv', _, hr⟩ := R.mr.frz hb
        rw [hρ] at hv'
        cases hv'
        exact hr
    · exact h
  | _ => exact h

theorem VR.thaw2 (R : Rc U w0 M0 nt s a w ρ M) {x : SV T} {v : Value} (h : VR U ρ M x v) : VR U ρ M (thaw2 s x) v := by
  cases x with
  | agg l =>
    cases h with
    | agg _ vs hl hf hv => exact .agg _ vs (by simpa using hl) hf fun i h1 h2 => (by simp only [List.getElem_map]; exact (hv i (by simpa using h1) h2).thaw1 R)
  | _ => exact h.thaw1 R

theorem VR.thaw (R : Rc U w0 M0 nt s a w ρ M) {x : SV T} {v : Value} (h : VR U ρ M x v) : VR U ρ M (thaw s x) v := by
  cases x with
  | tup l =>
    cases h with
    | tup _ vs hl hv => exact .tup _ vs (by simpa using hl) fun i h1 h2 => (by simp only [List.getElem_map]; exact (hv i (by simpa using h1) h2).thaw2 R)
  | _ => exact h.thaw2 R

def resF (tmps : Array Value) : ResultVar → Sem Value
  | .tmp t => pure (tmps.getD t undef)
  | .cell a t => do loadVar t (← asAddr (tmps.getD a undef))

theorem results_eq (fn : Func) (tmps : Array Value) : results fn tmps = (fn.results.mapM (resF tmps) >>= fun vs => pure (if h : vs.size = 1 then vs[0] else .tuple vs)) := rfl

theorem resL_run (R : Rc U w0 M0 nt s a w ρ M) : ∀ {rs : List ResultVar} {l : List (SV T)}, resL P s rs = some l →
    ∃ vs : List Value, (rs.mapM (resF a.tmps)).run P w = .ok vs w ∧ VRs U ρ M l vs
  | [], l, h => by
    simp only [resL, Option.some.injEq] at h
    subst h
    exact ⟨[], rfl, rfl, fun i h => by simp at h⟩
  | .tmp t :: rs, l, h => by
    simp only [resL] at h
    split at h
    · rename_i l' hl
      simp only [Option.some.injEq] at h
      subst h
      obtain ⟨vs, hr, hv⟩ := resL_run R hl
      refine ⟨a.tmps.getD t undef :: vs, ?_, .cons (R.tm t) hv⟩
      rw [List.mapM_cons, Sem.run_bind]
      show ((pure (a.tmps.getD t undef) : Sem Value).run P w).andThen _ = _
      rw [Sem.run_pure, Result.andThen_ok, Sem.run_bind, hr]
      rfl
    · cases h
  | .cell c t :: rs, l, h => by
    simp only [resL] at h
    split at h
    · rename_i b off hg
      split at h
      · rename_i t' cs hb
        split at h
        · rename_i x l' hx hl
          simp only [Option.some.injEq] at h
          subst h
          obtain ⟨vs, hr, hv⟩ := resL_run R hl
          have vp := R.tm c
          rw [hg] at vp
          obtain ⟨g, vs', hρ, _, hh, hcr, _⟩ := R.mr.cells hb
          generalize hpe : a.tmps.getD c undef = pv at vp
          cases vp with
          | ptr _ g' _ hρ' =>
            rw [hρ] at hρ'
            cases hρ'
            obtain ⟨u, hl2, hu⟩ := ld_run (P := P) (w := w) (g := g) (o := 0) hcr (fun j u hj => by rw [Nat.zero_add, cell_of_row w g j vs' t' (0, 0) hh]; simpa using hj) hx
            rw [Nat.zero_add] at hl2
            refine ⟨u :: vs, ?_, .cons hu hv⟩
            rw [List.mapM_cons, Sem.run_bind]
            have e : (resF a.tmps (.cell c t)).run P w = .ok u w := by
              show (do loadVar t (← asAddr (a.tmps.getD c undef)) : Sem Value).run P w = _
              rw [hpe, Sem.run_bind]
              exact hl2
            rw [e, Result.andThen_ok, Sem.run_bind, hr]
            rfl
        · cases h
      · cases h
    · cases h

theorem results_run (R : Rc U w0 M0 nt s a w ρ M) {fn : Func} {l : List (SV T)} (h : resL P s fn.results.toList = some l) :
    ∃ v, (results fn a.tmps).run P w = .ok v w ∧ VR U ρ M (oneOf l) v := by
  obtain ⟨vs, hr, hv⟩ := resL_run (P := P) R h
  have hm : (fn.results.mapM (resF a.tmps)).run P w = .ok vs.toArray w := by
    rw [Array.mapM_eq_mapM_toList, Sem.run_map, hr]
    rfl
  rw [results_eq, Sem.run_bind, hm, Result.andThen_ok]
  have hl := hv.1
  match l, vs, hl, hv with
  | [x], [v], _, hv => exact ⟨v, by simp, hv.2 0 (by simp) (by simp)⟩
  | [], [], _, hv => exact ⟨.tuple #[], by simp, VR.tup (U := U) (ρ := ρ) (M := M) [] [] rfl fun i h => by simp at h⟩
  | x :: y :: l, v :: u :: vs, hl, hv => exact ⟨.tuple (v :: u :: vs).toArray, by simp, .tup _ _ hl hv.2⟩
  | [_], [], hl, _ => simp at hl
  | [_], _ :: _ :: _, hl, _ => simp at hl
  | [], _ :: _, hl, _ => simp at hl
  | _ :: _ :: _, [], hl, _ => simp at hl
  | _ :: _ :: _, [_], hl, _ => simp at hl
end

section
variable {R : Type} {F : Fn T R}

def oneV (vs : List Value) : Value := match vs with
  | [y] => y
  | vs => .tuple vs.toArray

theorem fin_own (hF : FnOk F) {w0 : World} {M0 : Mem} {r : R} {a : Act} {w : World} {fn : Func} {s : St T} {ρ : Nat → Option Value} {M : Mem} {x : SV T} {v : Value} (R : Rc F.U w0 M0 F.nt s a w ρ M) (hv : (results fn a.tmps).run F.P w = .ok v w)
    (hvx : VR F.U ρ M x v) (h : finT F s x = some r) : ∃ v x bl ρ' M', (results fn a.tmps).run F.P w = .ok v w ∧ F.fin x bl = some r ∧ Ans F.U w0 M0 x bl v w ρ' M' := by
  unfold finT at h
  generalize metL s.env 3 [x] [] = ids at h
  unfold finI at h
  split at h
  · rename_i hchk
    simp only [Bool.and_eq_true] at hchk
    obtain ⟨hnd, harr⟩ := hchk
    refine ⟨v, _, _, rhoOf ids ρ, M, hv, h, ⟨R.mr.fr, R.mr.m0, R.mr.mo, R.mr.sub, hvx.rn hF.U (ren_ids ids ρ), fun i k hk => ?_, ?_⟩⟩
    · rw [List.getElem?_map] at hk
      cases hi : ids[i]? with
      | none => rw [hi] at hk; cases hk
      | some b =>
        rw [hi] at hk
        simp only [Option.map_some, Option.some.injEq] at hk
        have := List.all_eq_true.1 harr b (List.mem_of_getElem? hi)
        rcases R.mr.blk b with d | ⟨v', hv', hB⟩
        · rw [d] at this; cases this
        · refine ⟨v', by simp only [rhoOf, hi]; exact hv', ?_⟩
          rw [← hk]
          cases hb : s.blk b with
          | arr t xs =>
            rw [hb] at hB
            obtain ⟨cl, h1, h2, h3⟩ := hB
            exact ⟨cl, h1, h2.nr_ hF.U, h3⟩
          | _ => rw [hb] at this; cases this
    · intro i j ki kj vi vj g hi hj ei ej gi gj
      rw [List.getElem?_map] at hi hj
      cases hbi : ids[i]? with
      | none => rw [hbi] at hi; cases hi
      | some b =>
        cases hbj : ids[j]? with
        | none => rw [hbj] at hj; cases hj
        | some b' =>
          simp only [rhoOf, hbi] at ei
          simp only [rhoOf, hbj] at ej
          have l1 : (s.blk b).live = true := by
            have := List.all_eq_true.1 harr b (List.mem_of_getElem? hbi)
            cases hb : s.blk b <;> rw [hb] at this <;> first | rfl | cases this
          have l2 : (s.blk b').live = true := by
            have := List.all_eq_true.1 harr b' (List.mem_of_getElem? hbj)
            cases hb : s.blk b' <;> rw [hb] at this <;> first | rfl | cases this
          have := R.mr.inj b b' vi vj g l1 l2 ei ej gi gj
          subst this
          exact nodup_ids hnd i j b hbi hbj
  · cases h

theorem fin_ans (hF : FnOk F) {w0 : World} {M0 : Mem} {r : R} {a : Act} {w : World} {fn : Func} (hres : fn.results.toList = F.res) (h : Done F w0 M0 r a w) :
    ∃ v x bl ρ' M', (results fn a.tmps).run F.P w = .ok v w ∧ F.fin x bl = some r ∧ Ans F.U w0 M0 x bl v w ρ' M' := by
  obtain ⟨s, ρ, M, R, h⟩ := h
  unfold finS at h
  split at h
  · cases h
  rename_i l hl
  obtain ⟨v, hv, hvr⟩ := results_run (P := F.P) R (fn := fn) (by rw [hres]; exact hl)
  split at h
  · have hvx := hvr.thaw R
    exact fin_own hF R hv hvx h
  · split at h
    · cases h
    · rename_i q hq
      split at h
      · cases h
      · rename_i hnr
        obtain ⟨vs, hrs, hvs⟩ := resL_run (P := F.P) R hl
        obtain ⟨q', ws, M', hle, F1, _, hvq, hq'⟩ := argL_run hF.U (s := s) (ws0 := []) (Mb := M) ⟨.refl _, R.mr, fun p hp => by simp at hp⟩ hq
        simp only [RQ.run, Option.some.injEq] at hq'
        subst hq'
        have hn := normL_vr (P := F.P) (ts := F.rty) hF.U (hvq _ hvs)
        -- the same list of values
        have hv' : v = oneV vs := by
          rw [results_eq, Sem.run_bind] at hv
          have hm : (fn.results.mapM (resF a.tmps)).run F.P w = .ok vs.toArray w := by
            rw [Array.mapM_eq_mapM_toList, Sem.run_map, hres, hrs]
            rfl
          rw [hm, Result.andThen_ok] at hv
          match vs, hv with
          | [y], hv => simpa [oneV] using hv.symm
          | [], hv => simpa [oneV] using hv.symm
          | y :: z :: vs, hv => simpa [oneV] using hv.symm
        have hone : VR F.U (fun _ => none) M' (oneOf (normL F.P F.U F.rty q')) v := by
          rw [hv']
          have hn0 : VRs F.U (fun _ => none) M' (normL F.P F.U F.rty q') vs := ⟨hn.1, fun i h1 h2 => (hn.2 i h1 h2).nr hF.U (List.all_eq_true.1 hnr _ (List.getElem_mem h1))⟩
          generalize normL F.P F.U F.rty q' = l' at hn0
          match l', vs, hn0 with
          | [x], [y], hn0 => exact hn0.2 0 (by simp) (by simp)
          | [], [], _ => exact .tup [] [] rfl fun i h => by simp at h
          | x :: x' :: l', y :: y' :: vs, hn0 => exact .tup _ _ hn0.1 hn0.2
          | [_], [], hn0 => have := hn0.1; simp at this
          | [_], _ :: _ :: _, hn0 => have := hn0.1; simp at this
          | [], _ :: _, hn0 => have := hn0.1; simp at this
          | _ :: _ :: _, [], hn0 => have := hn0.1; simp at this
          | _ :: _ :: _, [_], hn0 => have := hn0.1; simp at this
        exact ⟨v, _, _, fun _ => none, M', hv, h, ⟨R.mr.fr, F1.mr.m0, F1.mr.mo, F1.mr.sub, hone, fun i k hk => by simp at hk, fun i j ki kj vi vj g hi => by simp at hi⟩⟩

def initS : List (SV T) → Nat → List (Nat × SV T)
  | [], _ => []
  | x :: l, i => (i, x) :: initS l (i + 1)
def st0 (l : List (SV T)) : St T := ⟨initS l 0, [], 0⟩

theorem look_init (t : Nat) : ∀ (l : List (SV T)) (i : Nat), look .any t (initS l i) = if i ≤ t then (l[t - i]?).getD .any else .any
  | [], i => by simp [initS, look]
  | x :: l, i => by
    simp only [initS]
    rw [look_put, look_init t l (i + 1)]
    by_cases h : i = t
    · subst h; simp
    · rw [if_neg h]
      by_cases h2 : i ≤ t
      · rw [if_pos (by omega), if_pos h2, show t - i = (t - (i + 1)) + 1 by omega, List.getElem?_cons_succ]
      · rw [if_neg (by omega), if_neg h2]

/-- A function's contract, out of its evaluation. -/
theorem snd_of (hF : FnOk F) {n : Nat} {fn : Func} {body : Code} {Fw : List (SV T) → Option (CallRes T)} (hfn : F.P.funcs[n]? = some fn) (hname : (fn.name == "runtime.NumGoroutine") = false) (hb : fn.body = some body)
    (hnt : fn.ntmps = F.nt) (hres : fn.results.toList = F.res)
    (h : ∀ l c x, Fw l = some c → c.run = some x → ∃ l', (∀ ρ M vs, VRs F.U ρ M l vs → VRs F.U ρ M l' vs) ∧ l'.length ≤ F.nt ∧ ∃ (i j : Nat) (r : R), ev F (evJ F i j) i [.code body] (st0 l') = some r ∧ ∀ p q, F.fin p q = some r → (c.out x).2 = q ∧ ∀ ρ M v, VR F.U ρ M p v → VR F.U ρ M (c.out x).1 v) : Snd F.P F.U n Fw where
  enter := ⟨fn, hfn, hname, by rw [hb]; rfl⟩
  run := by
    intro l0 c x hl hx w M vs hsub hvs0 cs
    obtain ⟨l, hk, hlen, i, j, r, hev, hout⟩ := h l0 c x hl hx
    have hvs := hk _ _ _ hvs0
    let a0 : Act := { tmps := vs.toArray ++ Array.replicate (fn.ntmps - vs.toArray.size) undef, defers := [] }
    have hl1 := hvs.1
    have R0 : Ra F.U w M F.nt (st0 l) a0 w (fun _ => none) M := by
      refine ⟨⟨⟨Below.refl _ _, .refl _, fun _ _ _ => rfl, hsub, fun b => .inl rfl, fun b b' v v' g h1 => by cases h1⟩, fun t => ?_, ?_, rfl⟩, fun _ _ => rfl⟩
      · show VR F.U _ M (look .any t (initS l 0)) _
        rw [look_init, if_pos (Nat.zero_le _), Nat.sub_zero]
        cases ht : l[t]? with
        | none => exact .any _
        | some y =>
          have hlt : t < l.length := (List.getElem?_eq_some_iff.1 ht).1
          have e := (List.getElem?_eq_some_iff.1 ht).2
          have := hvs.2 t hlt (by omega)
          rw [e] at this
          have e2 : a0.tmps.getD t undef = vs[t]'(by omega) := by
            simp only [a0, Array.getD_eq_getD_getElem?]
            rw [Array.getElem?_append_left (by simp; omega)]
            simp [show t < vs.length by omega]
          rw [e2]
          exact this
      · simp only [a0, Array.size_append, Array.size_replicate]
        rw [hnt]
        simp
        omega
    have hr := ev_sound (w0 := w) (M0 := M) hF (fun todo s a w ρ M h R => evJ_sound hF i j h R) i hev R0
    let b : Frame := { (default : Frame) with fn := n, kind := .normal }
    have henter : Frame.enter F.P n vs.toArray .normal = b.at a0 [.code body] := by
      simp [Frame.enter, Frame.at, hfn, hb, b, a0]
    obtain ⟨a', w', todo', hd, hs⟩ := hr b cs
    obtain ⟨v, p, q, ρ', M', hres', hfin, A⟩ := fin_ans hF hres hd
    have hdf : a'.defers = [] := by obtain ⟨_, _, _, R, _⟩ := hd; exact R.df
    rw [← henter] at hs
    refine ⟨.returned v, w', { b.at a' todo' with mode := .returning }, ⟨v, ρ', M', rfl, ?_⟩, hs, rfl, ?_⟩
    · obtain ⟨e1, e2⟩ := hout p q hfin
      rw [e1]
      exact ⟨A.bel, A.le, A.old, A.sub, e2 _ _ _ A.vr, A.blk, A.inj⟩
    · exact ⟨rfl, hdf, rfl, fn, hfn, hres'⟩
end
end Go.Sx
