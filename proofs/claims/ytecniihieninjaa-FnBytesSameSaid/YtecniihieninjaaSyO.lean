/- An evaluator of the model's code over symbolic values, and its soundness: part 13. No condition. -/
import Derived.Test.YtecniihieninjaaSyN
set_option linter.unusedVariables false
set_option linter.unusedSimpArgs false
namespace Go.Sx
open Go.RowKit
variable {T : Nat → Type} {U : Univ T} {P : Program}

/-- What a called function answers: its value, and the rows that it made. -/
structure Ans (U : Univ T) (w : World) (M : Mem) (sv : SV T) (bl : List (Blk T)) (v : Value) (w' : World) (ρ' : Nat → Option Value) (M' : Mem) : Prop where
  bel : Below w.heap.size w w'
  le : LeM M M'
  old : ∀ b o, b < w.heap.size → M' b o = M b o
  sub : ∀ b o v, M' b o = some v → w'.cell? ⟨b, o, none⟩ = some v
  vr : VR U ρ' M' sv v
  blk : ∀ i k, bl[i]? = some k → ∃ v', ρ' i = some v' ∧ BR U (fun g => w.heap.size ≤ g) ρ' M' w' v' k
  inj : ∀ i j ki kj vi vj g, bl[i]? = some ki → bl[j]? = some kj → ρ' i = some vi → ρ' j = some vj → blockOf vi = some g → blockOf vj = some g → i = j
  bpw : BpOk U w' M'
  bpo : ∀ B', M'.bp = some B' → ∀ g x, B' g = some x → (∃ B, M.bp = some B ∧ B g = some x) ∨ w.heap.size ≤ g
  kp : M'.bp.isSome = M.bp.isSome
  hpe : M'.hp = M.hp

structure Snd (P : Program) (U : Univ T) (n : Nat) (F : List (SV T) → Option (CallRes T)) : Prop where
  enter : ∃ fn, P.funcs[n]? = some fn ∧ (fn.name == "runtime.NumGoroutine") = false ∧ fn.body.isNone = false
  run : ∀ l c x, F l = some c → c.run = some x → ∀ (w : World) (M : Mem) (vs : List Value), (∀ b o v, M b o = some v → w.cell? ⟨b, o, none⟩ = some v) → BpOk U w M → (U.E = false → M.bp = none) → VRs U (fun _ => none) M l vs →
    Calls P n vs.toArray w fun e w' => ∃ v ρ' M', e = .returned v ∧ Ans U w M (c.out x).1 (c.out x).2 v w' ρ' M'

def rho1 (u : Value) : Nat → Option Value := fun i => if i = 0 then some u else none

/-- What a lent block may hold. -/
def Lent1 : Blk T → Prop
  | .cells _ cs => cs.all nr1 = true
  | .arr _ _ => True
  | _ => False
/-- What a function answers that was lent a block: its value, what the block holds, and the blocks that it made. -/
structure AnsL (U : Univ T) (w : World) (M : Mem) (u : Value) (sv : SV T) (k : Blk T) (bl : List (Blk T)) (v : Value) (w' : World) (ρ' : Nat → Option Value) (M' : Mem) : Prop where
  bel : Fr ⟨w, [u], true, noO⟩ w'
  le : LeM M M'
  old : ∀ b o, ¬ (⟨w, [u], true, noO⟩ : Frm).own b → M' b o = M b o
  sub : ∀ b o v, M' b o = some v → w'.cell? ⟨b, o, none⟩ = some v
  r0 : ρ' 0 = some u
  vr : VR U ρ' M' sv v
  blk : BR U (⟨w, [u], true, noO⟩ : Frm).own ρ' M' w' u k
  nr : Lent1 k
  blks : ∀ i k, bl[i]? = some k → ∃ v', ρ' (i + 1) = some v' ∧ okB k = true ∧ BR U (fun g => w.heap.size ≤ g) ρ' M' w' v' k
  inj : ∀ i j ki kj vi vj g, bl[i]? = some ki → bl[j]? = some kj → ρ' (i + 1) = some vi → ρ' (j + 1) = some vj → blockOf vi = some g → blockOf vj = some g → i = j
  bpw : BpOk U w' M'
  bpo : ∀ B', M'.bp = some B' → ∀ g x, B' g = some x → (∃ B, M.bp = some B ∧ B g = some x) ∨ (⟨w, [u], true, noO⟩ : Frm).own g
  kp : M'.bp.isSome = M.bp.isSome
  hpe : M'.hp = M.hp

/-- The argument that bears the block's value. -/
def wrapV : Bool → Value → Value
  | true, u => .agg [u].toArray
  | false, u => u
structure SndL (P : Program) (U : Univ T) (n : Nat) (sh : Bool) (F : Blk T → List (SV T) → Option (CallRes T)) : Prop where
  enter : ∃ fn, P.funcs[n]? = some fn ∧ (fn.name == "runtime.NumGoroutine") = false ∧ fn.body.isNone = false
  run : ∀ k l c x, F k l = some c → c.run = some x → ∀ (w : World) (M : Mem) (u : Value) (vs : List Value), (∀ b o v, M b o = some v → w.cell? ⟨b, o, none⟩ = some v) → BpOk U w M → (U.E = false → M.bp = none) → BR U (fun _ => True) (fun _ => none) M w u k →
    (match k with | .cells _ cs => cs.all nr1 = true | .arr _ _ => True | _ => False) → VRs U (fun _ => none) M l vs →
    Calls P n (wrapV sh u :: vs).toArray w fun e w' => ∃ v k' bl ρ' M', e = .returned v ∧ (c.out x).2 = k' :: bl ∧ AnsL U w M u (c.out x).1 k' bl v w' ρ' M'

/-! A heap of handles, lent -/
def noR0 : Nat → Option Value := fun _ => none
def Cell.live : Cell T → Bool
  | .arr _ _ => true
  | _ => false
def Cell.blk : Cell T → Blk T
  | .dead => .dead
  | .arr t xs => .arr t xs
  | .frz t xs => .frz t xs
structure Pool (U : Univ T) (O : Nat → Prop) (M : Mem) (w : World) (cs : List (Cell T)) : Prop where
  cell : ∀ j c, cs[j]? = some c → c = .dead ∨ ∃ v, M.hp j = some v ∧ BR U O noR0 M w v c.blk
  fresh : ∀ j, cs.length ≤ j → M.hp j = none
  inj : ∀ i j ci cj vi vj g, cs[i]? = some ci → cs[j]? = some cj → ci.live = true → cj.live = true → M.hp i = some vi → M.hp j = some vj → blockOf vi = some g → blockOf vj = some g → i = j
  old : ∀ j c v g, cs[j]? = some c → c.live = true → M.hp j = some v → blockOf v = some g → g < w.heap.size ∧ O g
/-- The blocks that the heap's cells own. -/
def lvO (M : Mem) (cs : List (Cell T)) : Nat → Prop := fun g => ∃ j c v, cs[j]? = some c ∧ c.live = true ∧ M.hp j = some v ∧ blockOf v = some g
def frmP (w : World) (us : List Value) (M : Mem) (cs : List (Cell T)) : Frm := ⟨w, us, true, lvO M cs⟩
structure AnsP (U : Univ T) (w : World) (us : List Value) (M : Mem) (cs : List (Cell T)) (sv : SV T) (cs' : List (Cell T)) (ks : List (Blk T)) (v : Value) (w' : World) (M' : Mem) : Prop where
  fr : Fr (frmP w us M cs) w'
  le : LeM M M'
  old : ∀ b o, ¬ (frmP w us M cs).own b → M' b o = M b o
  sub : ∀ b o v, M' b o = some v → w'.cell? ⟨b, o, none⟩ = some v
  vr : VR U noR0 M' sv v
  pool : Pool U (frmP w us M cs).own M' w' cs'
  bp : M'.bp = none
  lent : ∀ u, us = [u] → ∃ k', ks = [k'] ∧ Lent1 k' ∧ BR U (frmP w us M cs).own noR0 M' w' u k' ∧ ∀ g, blockOf u = some g → ¬ lvO M' cs' g
  none_ : us = [] → ks = []
/-- What a function that is lent the heap is lent besides. -/
def LentP (U : Univ T) (w : World) (M : Mem) (cs : List (Cell T)) (k : Blk T) : Bool → List Value → Prop
  | false, us => us = []
  | true, us => ∃ u, us = [u] ∧ BR U (fun _ => True) noR0 M w u k ∧ Lent1 k ∧ ∀ g, blockOf u = some g → ¬ lvO M cs g
structure SndP (P : Program) (U : Univ T) (n : Nat) (ln : Bool) (F : Blk T → List (Cell T) → List (SV T) → Option (CallRes T)) : Prop where
  enter : ∃ fn, P.funcs[n]? = some fn ∧ (fn.name == "runtime.NumGoroutine") = false ∧ fn.body.isNone = false
  run : ∀ k cs l c x, F k cs l = some c → c.run = some x → ∀ (w : World) (M : Mem) (O : Nat → Prop) (us vs : List Value), (∀ b o v, M b o = some v → w.cell? ⟨b, o, none⟩ = some v) → M.bp = none → Pool U O M w cs → LentP U w M cs k ln us → VRs U noR0 M l vs →
    Calls P n (us ++ vs).toArray w fun e w' => ∃ v M' cs' ks, e = .returned v ∧ (c.out x).2 = .mark cs' :: ks ∧ AnsP U w us M cs (c.out x).1 cs' ks v w' M'
/-- A function that looks at the heap, and leaves it as it was. -/
structure SndQ (P : Program) (U : Univ T) (n : Nat) (F : List (Cell T) → List (SV T) → Option (CallRes T)) : Prop where
  enter : ∃ fn, P.funcs[n]? = some fn ∧ (fn.name == "runtime.NumGoroutine") = false ∧ fn.body.isNone = false
  run : ∀ cs l c x, F cs l = some c → c.run = some x → ∀ (w : World) (M : Mem) (O : Nat → Prop) (vs : List Value), (∀ b o v, M b o = some v → w.cell? ⟨b, o, none⟩ = some v) → M.bp = none → Pool U O M w cs → VRs U noR0 M l vs →
    Calls P n vs.toArray w fun e w' => ∃ v M', e = .returned v ∧ AnsP U w [] M cs (c.out x).1 cs [] v w' M'

def SndE (P : Program) (U : Univ T) (n : Nat) : CallE T → Prop
  | .plain F => Snd P U n F
  | .lent sh F => SndL P U n sh F
  | .heap ln F => SndP P U n ln F
  | .look_ F => SndQ P U n F

section
variable {w0 : Frm} {M0 : Mem} {nt nid : Nat} {s : St T} {a : Act} {w : World} {ρ ρ' : Nat → Option Value} {M : Mem} {c : Step T} {o : Oper} {Tb : Calls_ T} {α : Type 1} {r : α}

theorem newBs_look (s : St T) (w : List (Nat × Blk T)) : ∀ (bl : List (Blk T)) (nid b : Nat), (s.puts (newBs nid bl ++ w)).blk b = if nid ≤ b then (match bl[b - nid]? with | some k => k | none => (s.puts w).blk b) else (s.puts w).blk b
  | [], nid, b => by simp [newBs]
  | k :: bl, nid, b => by
    show (s.puts ((nid, k) :: (newBs (nid + 1) bl ++ w))).blk b = _
    rw [puts_cons, blk_put1, newBs_look s w bl (nid + 1) b]
    by_cases e : nid = b
    · subst e; simp
    · rw [if_neg e]
      by_cases h : nid ≤ b
      · rw [if_pos (by omega), if_pos h]
        have : b - nid = (b - (nid + 1)) + 1 := by omega
        rw [this, List.getElem?_cons_succ]
      · rw [if_neg (by omega), if_neg h]

theorem SameAt.of_call {M M' : Mem} (hle : LeM M M') {g : Nat} (h1 : ∀ o, M' g o = M g o) (h2 : ∀ B', M'.bp = some B' → ∀ x, B' g = some x → ∃ B, M.bp = some B ∧ B g = some x) : SameAt M M' g := by
  refine ⟨h1, fun B' hB' => ?_⟩
  obtain ⟨B, hB, hk⟩ := hle.bp B' hB'
  refine ⟨B, hB, ?_⟩
  cases hx : B' g with
  | none =>
    cases hy : B g with
    | none => rfl
    | some y => rw [hk g y hy] at hx; cases hx
  | some x =>
    obtain ⟨B2, hB2, h3⟩ := h2 B' hB' x hx
    rw [hB] at hB2
    cases hB2
    exact h3.symm
theorem BR.lower {O O' : Nat → Prop} {v : Value} {k : Blk T} (h : BR U O ρ M w v k) (hb : ∀ g, O g → O' g) : BR U O' ρ M w v k := by
  cases k with
  | dead => trivial
  | mark cs => exact h
  | cells t cs => obtain ⟨g, vs, e, h1, rest⟩ := h; exact ⟨g, vs, e, hb g h1, rest⟩
  | arr t xs =>
    obtain ⟨cl, h1, h2, h3, h4⟩ := h
    exact ⟨cl, h1, h2, h3, fun g hg => hb g (h4 g hg)⟩
  | frz t xs => exact h

theorem BR.okr (hU : UOk U) {O O' : Nat → Prop} {v : Value} {k : Blk T} (hk : okB k = true) (h : BR U O ρ M w v k) (hb : ∀ g, blockOf v = some g → O g → O' g) : BR U O' ρ' M w v k := by
  cases k with
  | arr t xs =>
    obtain ⟨cl', ho', hc', hm', h5⟩ := h
    refine ⟨cl', ho', ⟨hc'.len, hc'.one, fun i h1 h2 => (hc'.at_ i h1 h2).nr1 hU ?_⟩, hm', fun g hg => hb g (blockOf_own hg) (h5 g hg)⟩
    obtain ⟨y, _, hy⟩ := List.mem_flatMap.1 (List.getElem_mem h1)
    exact List.all_eq_true.1 (hU.nr t y) _ hy
  | cells t cs =>
    obtain ⟨g, vs, e, h1, h2, h3, h4⟩ := h
    exact ⟨g, vs, e, hb g (by rw [e]; rfl) h1, h2, ⟨h3.len, h3.one, fun i k1 k2 => (h3.at_ i k1 k2).nr1 hU (List.all_eq_true.1 hk _ (List.getElem_mem k1))⟩, h4⟩
  | dead => cases hk
  | mark cs => cases hk
  | frz t xs => cases hk

theorem BR.okb {O : Nat → Prop} {v : Value} {k : Blk T} (hk : okB k = true) (h : BR U O ρ M w v k) {g : Nat} (hg : blockOf v = some g) : O g := by
  cases k with
  | arr t xs =>
    obtain ⟨cl', ho', _, _, h5⟩ := h
    exact h5 g (own_block_lt ho' hg).1
  | cells t cs =>
    obtain ⟨g', vs, rfl, h1, _⟩ := h
    simp only [blockOf, Option.some.injEq] at hg
    exact hg ▸ h1
  | dead => cases hk
  | mark cs => cases hk
  | frz t xs => cases hk

theorem VR.sc1 {M' : Mem} {x : SV T} {v : Value} (h : VR U ρ M x v) (hs : sc1 x = true) : VR U ρ' M' x v := by
  cases x with
  | v y => cases h; exact .v _
  | _ => cases hs
theorem VR.sc2 {M' : Mem} {x : SV T} {v : Value} (h : VR U ρ M x v) (hs : sc2 x = true) : VR U ρ' M' x v := by
  cases x with
  | agg l => cases h with
    | agg _ vs hl hf k => exact .agg _ vs hl hf fun i h1 h2 => (k i h1 h2).sc1 (List.all_eq_true.1 hs _ (List.getElem_mem h1))
  | _ => exact h.sc1 hs
theorem VR.scal {M' : Mem} {x : SV T} {v : Value} (h : VR U ρ M x v) (hs : scal x = true) : VR U ρ' M' x v := by
  cases x with
  | tup l => cases h with
    | tup _ vs hl k => exact .tup _ vs hl fun i h1 h2 => (k i h1 h2).sc2 (List.all_eq_true.1 hs _ (List.getElem_mem h1))
  | _ => exact h.sc2 hs

theorem call_enter {cl : Call} {f : Operand} {n : Nat} {x y : Array Value} (ho : o.op = .call cl) (hc : cl.callee = .value f) (hf : a.eval f = .func (.func n) x y) (hx : x = #[]) (hy : y = #[])
    (he : ∃ fn, P.funcs[n]? = some fn ∧ (fn.name == "runtime.NumGoroutine") = false ∧ fn.body.isNone = false) :
    (execOp a.eval o).run P w = .ok (.enter n (cl.args.map a.eval)) w := by
  obtain ⟨fn, h1, h2, h3⟩ := he
  subst hx
  subst hy
  have h2' : ¬ fn.name = "runtime.NumGoroutine" := by simpa using h2
  have h3' : ¬ fn.body = none := by intro e; rw [e] at h3; simp at h3
  simp [execOp, ho, resolve, hc, hf, Deferred.ofValue, invoke, callFunc, program, Sem.run, h1, h2', h3']

theorem puts_not (s : St T) (b : Nat) : ∀ ws : List (Nat × Blk T), (∀ p ∈ ws, p.1 ≠ b) → (s.puts ws).blk b = s.blk b
  | [], _ => rfl
  | p :: ws, h => by
    rw [puts_cons s p.1 p.2 ws, blk_put1, if_neg (h p (by simp))]
    exact puts_not s b ws fun q hq => h q (by simp [hq])

theorem norm1_vr (hU : UOk U) {t : Nat} {x : SV T} {v : Value} (h : VR U ρ M x v) : VR U ρ M (norm1 P U t x) v := by
  unfold norm1
  split
  · split
    · cases h
      exact .row _ [] none 0 (fun _ _ => undef) (Nat.le_refl _) (fun _ => ⟨rfl, rfl⟩) (fun a ha => by cases ha) (fun a ha => by cases ha) (fun i hi => by simp at hi) (fun i hi => by simp at hi) (fun _ _ _ a ha => by cases ha)
    · exact h
  · rename_i cs
    split
    · rename_i y hy
      cases h with
      | agg _ vs hl hf hv => exact (hU.dec t cs y hy ρ M vs ⟨hl, hf, hv⟩).agg
    · exact h
  · exact h

theorem normL_vr (hU : UOk U) : ∀ {ts : List Nat} {l : List (SV T)} {vs : List Value}, VRs U ρ M l vs → VRs U ρ M (normL P U ts l) vs
  | [], l, vs, h => by unfold normL; exact h
  | t :: ts, [], vs, h => by unfold normL; exact h
  | t :: ts, x :: l, vs, h => by
    obtain ⟨v, vs', rfl, hx, hr⟩ := h.uncons
    unfold normL
    exact .cons (norm1_vr hU hx) (normL_vr hU hr)

theorem good_call (hU : UOk U) (hT : ∀ n F, Tb n = some F → SndE P U n F) (R : Rl U w0 M0 nt s nid a w ρ M) {cl : Call} {f : Operand} (ho : o.op = .call cl) (hcl : cl.callee = .value f)
    (h : (opQ P U Tb nid (.call cl)).run s = some c) : Good P U w0 M0 s nid ρ M a w o c := by
  simp only [opQ, hcl] at h
  obtain ⟨sf, hf, h⟩ := rdO_run h
  have vf := hf.vr R
  split at h
  · rename_i n fx fy
    split at h
    · rename_i hsz
      have hsz' := beq_eq hsz
      have hfx : fx = #[] := Array.eq_empty_of_size_eq_zero (by omega)
      have hfy : fy = #[] := Array.eq_empty_of_size_eq_zero (by omega)
      generalize hfe : a.eval f = fv at vf
      cases vf
      obtain ⟨l, hl, h⟩ := rdOs_run h
      unfold callQ at h
      split at h
      · simp [RQ.run] at h
      · simp [RQ.run] at h
      · simp [RQ.run] at h
      · rename_i F hF
        have S : Snd P U n F := hT n (.plain F) hF
        obtain ⟨q, ws, M1, hle, F1, hg, hv, h⟩ := argL_run hU (ws0 := []) (Mb := M) ⟨.refl _, R.mr, fun p hp => by simp at hp⟩ h
        rw [List.append_nil] at F1
        split at h
        · simp [RQ.run] at h
        · rename_i hnr
          split at h
          · simp [RQ.run] at h
          · rename_i cr hcr
            simp only [RQ.run, Option.some.injEq] at h
            subst h
            intro _ x hx
            simp only at x hx ⊢
            -- the arguments
            obtain ⟨hlen, hvr⟩ := hl.vr R
            have hargs : VRs U ρ M l (cl.args.map a.eval).toList := ⟨by simpa using hlen, fun i h1 h2 => by
              have := hvr i h1 (by rw [← hlen]; exact h1)
              simpa using this⟩
            have hq0 := hv _ hargs
            have hq := normL_vr (P := P) (ts := cl.argTypes.toList) hU hq0
            have hq' : VRs U (fun _ => none) M1 (normL P U cl.argTypes.toList q) (cl.args.map a.eval).toList := ⟨hq.1, fun i h1 h2 => (hq.2 i h1 h2).nr hU (List.all_eq_true.1 hnr _ (List.getElem_mem h1))⟩
            have C := S.run _ cr x hcr hx w M1 _ F1.mr.sub F1.mr.bpw F1.mr.e0 hq'
            refine .inr (.inr ⟨n, cl.args.map a.eval, call_enter ho hcl hfe hfx hfy S.enter, ?_⟩)
            have hta : (cl.args.map a.eval).toList.toArray = cl.args.map a.eval := Array.toArray_toList
            rw [hta] at C
            refine C.mono ?_
            rintro e w' ⟨v, ρ', M', rfl, A⟩
            refine ⟨v, rfl, ?_⟩
            have hsize : w0.w.heap.size ≤ w.heap.size := R.mr.fr.size
            have hfr : Fr w0 w' := R.mr.fr.trans A.bel
            have hmo : ∀ b o, ¬ w0.own b → M' b o = M1 b o := fun b o hb => A.old b o (Nat.lt_of_lt_of_le (Frm.lt hb) hsize)
            have hold : ∀ b v g, ((s.puts ws).blk b).live = true → ρ b = some v → blockOf v = some g → w'.heap[g]? = w.heap[g]? ∧ SameAt M1 M' g := fun b v g hl hv hg =>
              have hlt := (F1.mr.lt hl hv hg).1
              ⟨A.bel.block g hlt, .of_call A.le (fun o => A.old g o hlt) fun B' hB' x hx => (A.bpo B' hB' g x hx).resolve_right (Nat.not_le_of_lt hlt)⟩
            have hbs : BpS U w0 M1 M' w' := ⟨A.bpw, fun B' hB' g x hx => (A.bpo B' hB' g x hx).imp id fun h => .inl (Nat.le_trans hsize h), A.kp, A.hpe⟩
            unfold outP
            split
            · rename_i hsc
              obtain ⟨hs1, _⟩ := Bool.and_eq_true_iff.1 hsc
              refine ⟨ρ, M, .refl _, .refl _, fun _ _ h => h, ?_, A.vr.scal hs1⟩
              exact R.mr.step (fun _ => False) hfr (.refl _) (.refl _) (R.mr.same_lt fun g hg => A.bel.block g hg) (fun _ _ _ => rfl) (fun b o v hv => (A.bel.cell (World.block_lt_of_cell? w _ (R.mr.sub _ _ _ hv))).trans (R.mr.sub _ _ _ hv)) (fun b _ => ⟨rfl, fun v1 g hl hv1 hg => ⟨A.bel.block g (R.mr.lt hl hv1 hg).1, .refl _ _⟩⟩) (fun _ h => h.elim) R.mr.inj
            unfold outOf
            split
            · rename_i hchk
              simp only [Bool.and_eq_true] at hchk
              obtain ⟨hk8, harr⟩ := hchk
              have hk : (cr.out x).2.length ≤ 8 := Nat.le_of_ble_eq_true hk8
              generalize hsv : (cr.out x).1 = sv at A
              generalize hbl : (cr.out x).2 = bl at A hk harr
              let ρ'' : Nat → Option Value := fun b => if nid ≤ b ∧ b < nid + bl.length then ρ' (b - nid) else ρ b
              have hle : LeR ρ ρ'' := by
                intro b u hu
                simp only [ρ'']
                split
                · rename_i hb
                  rw [R.nw b hb.1 (by omega)] at hu
                  cases hu
                · exact hu
              have hren : Ren (fun b => match Nat.blt b bl.length with | true => some (nid + b) | false => none) ρ' ρ'' := by
                intro b d u hb hu
                simp only at hb
                split at hb
                · rename_i hlt
                  have hlt' : b < bl.length := by simpa [Nat.blt_eq] using hlt
                  cases hb
                  simp only [ρ'']
                  rw [if_pos (by omega), Nat.add_sub_cancel_left]
                  exact hu
                · cases hb
              refine ⟨ρ'', M', hle, F1.le.trans A.le, fun b hb hb' => ?_, ?_, A.vr.rn hU hren⟩
              · simp only [ρ'']
                rw [if_neg (by omega)]
                exact hb'
              · have key : ∀ b, (s.puts (newBs nid bl ++ ws)).blk b = if nid ≤ b ∧ b < nid + bl.length then (match bl[b - nid]? with | some k => k | none => .dead) else (s.puts ws).blk b := by
                  intro b
                  rw [newBs_look]
                  by_cases h1 : nid ≤ b
                  · rw [if_pos h1]
                    by_cases h2 : b < nid + bl.length
                    · rw [if_pos ⟨h1, h2⟩, List.getElem?_eq_getElem (by omega)]
                    · rw [if_neg (by omega), List.getElem?_eq_none (by omega)]
                  · rw [if_neg h1, if_neg (by omega)]
                have nb : ∀ b, nid ≤ b ∧ b < nid + bl.length → ∃ k v', bl[b - nid]? = some k ∧ okB k = true ∧ ρ' (b - nid) = some v' ∧ BR U (fun g => w.heap.size ≤ g) ρ' M' w' v' k := by
                  intro b hb
                  have hi : b - nid < bl.length := by omega
                  obtain ⟨v', h1, h2⟩ := A.blk (b - nid) _ (List.getElem?_eq_getElem hi)
                  exact ⟨_, v', List.getElem?_eq_getElem hi, List.all_eq_true.1 harr _ (List.getElem_mem hi), h1, h2⟩
                have ge : ∀ b v' g, nid ≤ b ∧ b < nid + bl.length → ρ' (b - nid) = some v' → blockOf v' = some g → w.heap.size ≤ g := by
                  intro b v' g hb hv' hg
                  obtain ⟨k, v2, _, h0, h2, h3⟩ := nb b hb
                  rw [hv'] at h2
                  cases h2
                  exact h3.okb h0 hg
                refine F1.mr.step (fun b => nid ≤ b ∧ b < nid + bl.length) hfr hle A.le hbs hmo A.sub (fun b hb => ⟨by rw [key, if_neg hb], fun v1 g hl hv1 hg => hold b v1 g hl hv1 hg⟩) (fun b hb => ?_) ?_
                · obtain ⟨k, v', h1, h0, h2, h3⟩ := nb b hb
                  refine .inr ⟨v', by simp only [ρ'']; rw [if_pos hb]; exact h2, ?_⟩
                  rw [key, if_pos hb, h1]
                  exact h3.okr hU h0 (fun g _ hg => (.inl (Nat.le_trans hsize hg) : w0.own g))
                · have split_ : ∀ b v1, ((s.puts (newBs nid bl ++ ws)).blk b).live = true → ρ'' b = some v1 → (nid ≤ b ∧ b < nid + bl.length ∧ ρ' (b - nid) = some v1) ∨ (((s.puts ws).blk b).live = true ∧ ρ b = some v1) := by
                    intro b v1 hl hv1
                    by_cases hb : nid ≤ b ∧ b < nid + bl.length
                    · simp only [ρ''] at hv1
                      rw [if_pos hb] at hv1
                      exact .inl ⟨hb.1, hb.2, hv1⟩
                    · rw [key, if_neg hb] at hl
                      simp only [ρ''] at hv1
                      rw [if_neg hb] at hv1
                      exact .inr ⟨hl, hv1⟩
                  intro b1 b2 v1 v2 g l1 l2 e1 e2 g1 g2
                  rcases split_ b1 v1 l1 e1 with ⟨x1, x2, x3⟩ | ⟨x1, x2⟩ <;> rcases split_ b2 v2 l2 e2 with ⟨y1, y2, y3⟩ | ⟨y1, y2⟩
                  · obtain ⟨_, _, p1, _⟩ := nb b1 ⟨x1, x2⟩
                    obtain ⟨_, _, p2, _⟩ := nb b2 ⟨y1, y2⟩
                    have := A.inj _ _ _ _ v1 v2 g p1 p2 x3 y3 g1 g2
                    omega
                  · have := ge b1 v1 g ⟨x1, x2⟩ x3 g1
                    have := (F1.mr.lt y1 y2 g2).1
                    omega
                  · have := ge b2 v2 g ⟨y1, y2⟩ y3 g2
                    have := (F1.mr.lt x1 x2 g1).1
                    omega
                  · exact F1.mr.inj b1 b2 v1 v2 g x1 y1 x2 y2 g1 g2
            · refine ⟨ρ, M', .refl _, F1.le.trans A.le, fun _ _ h => h, ?_, .any _⟩
              exact F1.mr.step (fun _ => False) hfr (.refl _) A.le hbs hmo A.sub (fun b _ => ⟨rfl, fun v1 g hl hv1 hg => hold b v1 g hl hv1 hg⟩) (fun _ h => h.elim) F1.mr.inj
      · rename_i sh F hF
        have S : SndL P U n sh F := hT n (.lent sh F) hF
        split at h
        · simp [RQ.run] at h
        rename_i x0 l
        split at h
        · simp [RQ.run] at h
        rename_i b hnm
        simp only [RQ.run] at h
        split at h
        · simp [RQ.run] at h
        rename_i hlend
        obtain ⟨q, ws, M1, hle, F1, hg, hv, h⟩ := argL_run hU (ws0 := []) (Mb := M) ⟨.refl _, R.mr, fun p hp => by simp at hp⟩ h
        rw [List.append_nil] at F1
        split at h
        · simp [RQ.run] at h
        rename_i hchk
        obtain ⟨hnr, hws⟩ := Bool.and_eq_true_iff.1 hchk
        split at h
        · simp [RQ.run] at h
        rename_i cr hcr
        simp only [RQ.run, Option.some.injEq] at h
        subst h
        intro _ x hx
        simp only at x hx ⊢
        obtain ⟨hlen, hvr⟩ := hl.vr R
        have hargs : VRs U ρ M (x0 :: l) (cl.args.map a.eval).toList := ⟨by simpa using hlen, fun i h1 h2 => by
          have := hvr i h1 (by rw [← hlen]; exact h1)
          simpa using this⟩
        obtain ⟨u0, us, hus, hxu, hrest⟩ := hargs.uncons
        have hq0 := hv _ hrest
        have hq := normL_vr (P := P) (ts := cl.argTypes.toList.tail) hU hq0
        have hq' : VRs U (fun _ => none) M1 (normL P U cl.argTypes.toList.tail q) us := ⟨hq.1, fun i h1 h2 => (hq.2 i h1 h2).nr hU (List.all_eq_true.1 hnr _ (List.getElem_mem h1))⟩
        have hnot : ∀ p ∈ ws, p.1 ≠ b := fun p hp e => by
          have := List.all_eq_true.1 hws p hp
          rw [e] at this
          simp at this
        have hblk : (s.puts ws).blk b = s.blk b := puts_not s b ws hnot
        -- the lent block
        have hbr : ∃ u, u0 = wrapV sh u ∧ ρ b = some u ∧ BR U w0.own ρ M1 w u (s.blk b) ∧ (match s.blk b with | .cells _ cs => cs.all nr1 = true | .arr _ _ => True | _ => False) := by
          rcases F1.mr.blk b with d | ⟨_, d⟩ | ⟨v', hv', hB⟩
          · rw [hblk] at d
            rw [d] at hlend
            unfold lendOk at hlend
            split at hlend <;> simp_all
          · rw [hblk] at d
            rw [d] at hlend
            unfold lendOk at hlend
            split at hlend <;> simp_all
          · rw [hblk] at hB
            generalize s.blk b = kb at hlend hB
            unfold lendOk at hlend
            split at hlend
            · rename_i b' t cs
              simp only [nameOf, Option.some.injEq] at hnm
              subst hnm
              simp only [Bool.and_eq_true, Bool.not_eq_true'] at hlend
              obtain ⟨rfl, hcs⟩ := hlend
              cases hxu with
              | ptr _ g _ hρ =>
                rw [hρ] at hv'
                cases hv'
                exact ⟨_, rfl, hρ, hB, hcs⟩
            · rename_i b' t xs
              simp only [nameOf, Option.some.injEq] at hnm
              subst hnm
              simp only [Bool.not_eq_true'] at hlend
              subst hlend
              cases hxu with
              | own _ A n' cp hρ =>
                rw [hρ] at hv'
                cases hv'
                exact ⟨_, rfl, hρ, hB, trivial⟩
            · rename_i b' t xs
              simp only [nameOf, Option.some.injEq] at hnm
              subst hnm
              subst hlend
              cases hxu with
              | agg _ vs hl hf hvs =>
                match vs, hl, hvs with
                | [u], _, hvs =>
                  have := hvs 0 (by simp) (by simp)
                  cases this with
                  | own _ A n' cp hρ =>
                    rw [hρ] at hv'
                    cases hv'
                    exact ⟨_, rfl, hρ, hB, trivial⟩
            · cases hlend
        obtain ⟨u, rfl, hρb, hB, hkn⟩ := hbr
        have hlive : (s.blk b).live = true := by
          cases hk : s.blk b <;> rw [hk] at hkn <;> first | rfl | exact hkn.elim
        have hB' : BR U (fun _ => True) (fun _ => none) M1 w u (s.blk b) := by
          cases hk : s.blk b with
          | dead => trivial
          | cells t cs =>
            rw [hk] at hB hkn
            obtain ⟨g, vs, e, _, h2, h3, h4⟩ := hB
            exact ⟨g, vs, e, trivial, h2, ⟨h3.len, h3.one, fun i k1 k2 => (h3.at_ i k1 k2).nr1 hU (List.all_eq_true.1 hkn _ (List.getElem_mem k1))⟩, h4⟩
          | arr t xs =>
            rw [hk] at hB
            obtain ⟨cl', h1, h2, h3, _⟩ := hB
            exact ⟨cl', h1, ⟨h2.len, h2.one, fun i k1 k2 => (h2.at_ i k1 k2).nr1 hU (by
              obtain ⟨y, _, hy⟩ := List.mem_flatMap.1 (List.getElem_mem k1)
              exact List.all_eq_true.1 (hU.nr t y) _ hy)⟩, h3, fun _ _ => trivial⟩
          | frz t xs => rw [hk] at hkn; exact hkn.elim
          | mark cs => rw [hk] at hkn; exact hkn.elim
        have C := S.run _ _ cr x hcr hx w M1 u us F1.mr.sub F1.mr.bpw F1.mr.e0 hB' hkn hq'
        refine .inr (.inr ⟨n, cl.args.map a.eval, call_enter ho hcl hfe hfx hfy S.enter, ?_⟩)
        have hta : (wrapV sh u :: us).toArray = cl.args.map a.eval := by rw [← hus]
        rw [hta] at C
        refine C.mono ?_
        rintro e w' ⟨v, k', bl, ρ', M', rfl, hout, A⟩
        refine ⟨v, rfl, ?_⟩
        have hlb : ((s.puts ws).blk b).live = true := by rw [hblk]; exact hlive
        have hown : ∀ g, blockOf u = some g → w0.own g := fun g hg => (F1.mr.lt hlb hρb hg).2
        have hnown : ∀ j, ¬ w0.own j → ¬ (⟨w, [u], true, noO⟩ : Frm).own j := by
          rintro j hj (h1 | ⟨v', h1, h2⟩ | h1)
          · exact hj (.inl (Nat.le_trans R.mr.fr.size h1))
          · simp only [List.mem_singleton] at h1
            subst h1
            exact hj (hown j h2)
          · exact h1.elim
        have hfr : Fr w0 w' := ⟨A.bel.os.trans R.mr.fr.os, A.bel.tape.trans R.mr.fr.tape, A.bel.output.trans R.mr.fr.output, Nat.le_trans R.mr.fr.size A.bel.size, fun j hj => (A.bel.block j (hnown j hj)).trans (R.mr.fr.block j hj)⟩
        have hup : ∀ g, (⟨w, [u], true, noO⟩ : Frm).own g → w0.own g := by
          rintro g (h1 | ⟨v', h1, h2⟩ | h1)
          · exact .inl (Nat.le_trans R.mr.fr.size h1)
          · simp only [List.mem_singleton] at h1
            subst h1
            exact hown g h2
          · exact h1.elim
        have hsize : w0.w.heap.size ≤ w.heap.size := R.mr.fr.size
        have hk' : k'.live = true := by
          have h1 := A.nr
          revert h1
          cases k' <;> intro h1 <;> first | rfl | exact False.elim h1
        have hold : ∀ b' v1 g, b' ≠ b → ((s.puts ws).blk b').live = true → ρ b' = some v1 → blockOf v1 = some g → w'.heap[g]? = w.heap[g]? ∧ SameAt M1 M' g := by
          intro b' v1 g hb' hl1 hv1 hg1
          have hng : ¬ (⟨w, [u], true, noO⟩ : Frm).own g := by
            rintro (h1 | ⟨v', h1, h2⟩ | h1)
            · have := (F1.mr.lt hl1 hv1 hg1).1
              exact absurd h1 (Nat.not_le_of_lt this)
            · simp only [List.mem_singleton] at h1
              subst h1
              exact hb' (F1.mr.inj b' b v1 v' g hl1 hlb hv1 hρb hg1 h2)
            · exact h1.elim
          exact ⟨A.bel.block g hng, .of_call A.le (fun o => A.old g o hng) fun B' hB' x hx => (A.bpo B' hB' g x hx).resolve_right hng⟩
        have hbs : BpS U w0 M1 M' w' := ⟨A.bpw, fun B' hB' g x hx => (A.bpo B' hB' g x hx).imp id (hup g), A.kp, A.hpe⟩
        have hBk : ∀ {ρ0 : Nat → Option Value}, BR U w0.own ρ0 M' w' u k' := by
          intro ρ0
          have hA := A.blk.lower hup
          have hAn := A.nr
          cases k' with
          | dead => trivial
          | mark cs => exact False.elim hAn
          | cells t cs =>
            obtain ⟨g, vs, e, h1, h2, h3, h4⟩ := hA
            exact ⟨g, vs, e, h1, h2, ⟨h3.len, h3.one, fun i k1 k2 => (h3.at_ i k1 k2).nr1 hU (List.all_eq_true.1 hAn _ (List.getElem_mem k1))⟩, h4⟩
          | arr t xs =>
            obtain ⟨cl', h1, h2, h3⟩ := hA
            exact ⟨cl', h1, ⟨h2.len, h2.one, fun i k1 k2 => (h2.at_ i k1 k2).nr1 hU (by
              obtain ⟨y, _, hy⟩ := List.mem_flatMap.1 (List.getElem_mem k1)
              exact List.all_eq_true.1 (hU.nr t y) _ hy)⟩, h3⟩
          | frz t xs => exact False.elim hAn
        have dead : Post U w0 M0 s nid ρ M .any ((b, .dead) :: ws) v w' := by
          refine ⟨ρ, M', .refl _, F1.le.trans A.le, fun _ _ h => h, ?_, .any _⟩
          have key : ∀ b', (s.puts ((b, .dead) :: ws)).blk b' = if b = b' then .dead else (s.puts ws).blk b' := fun b' => blk_put1 (s.puts ws) b .dead b'
          have live : ∀ b', ((s.puts ((b, .dead) :: ws)).blk b').live = true → ((s.puts ws).blk b').live = true := by
            intro b' hl'
            rw [key] at hl'
            split at hl'
            · cases hl'
            · exact hl'
          refine F1.mr.step (fun b' => b' = b) hfr (.refl _) A.le hbs (fun j o hj => A.old j o (hnown j hj)) A.sub (fun b' hb' => ⟨by rw [key, if_neg (Ne.symm hb')], fun v1 g hl1 hv1 hg1 => hold b' v1 g hb' hl1 hv1 hg1⟩) (fun b' hb' => .inl (by rw [key, if_pos hb'.symm])) ?_
          exact fun b1 b2 v1 v2 g l1 l2 e1 e2 g1 g2 => F1.mr.inj b1 b2 v1 v2 g (live _ l1) (live _ l2) e1 e2 g1 g2
        unfold outL
        rw [hout]
        simp only
        split
        · rename_i hck
          simp only [Bool.and_eq_true] at hck
          obtain ⟨hk8, harr⟩ := hck
          have hk : bl.length ≤ 8 := Nat.le_of_ble_eq_true hk8
          have hbn : ¬ (nid ≤ b ∧ b < nid + bl.length) := fun hb => by
            rw [R.nw b hb.1 (by omega)] at hρb
            cases hρb
          let ρ'' : Nat → Option Value := fun b => if nid ≤ b ∧ b < nid + bl.length then ρ' (b - nid + 1) else ρ b
          have hle : LeR ρ ρ'' := by
            intro b u hu
            simp only [ρ'']
            split
            · rename_i hb
              rw [R.nw b hb.1 (by omega)] at hu
              cases hu
            · exact hu
          have hren : Ren (fun i => match Nat.beq i 0 with | true => some b | false => match Nat.ble i bl.length with | true => some (nid + (i - 1)) | false => none) ρ' ρ'' := by
            intro i d u' hi hu'
            simp only at hi
            split at hi
            · rename_i h0
              have := beq_eq h0
              subst this
              cases hi
              rw [A.r0] at hu'
              cases hu'
              exact hle _ _ hρb
            · rename_i h0
              have h0' : i ≠ 0 := fun e => by subst e; cases h0
              split at hi
              · rename_i h1
                have h1' := Nat.le_of_ble_eq_true h1
                cases hi
                simp only [ρ'']
                rw [if_pos (by omega), show nid + (i - 1) - nid + 1 = i by omega]
                exact hu'
              · cases hi
          refine ⟨ρ'', M', hle, F1.le.trans A.le, fun b' hb hb' => ?_, ?_, A.vr.rn hU hren⟩
          · simp only [ρ'']
            rw [if_neg (by omega)]
            exact hb'
          · have key : ∀ b', (s.puts ((b, k') :: (newBs nid bl ++ ws))).blk b' = if b = b' then k' else if nid ≤ b' ∧ b' < nid + bl.length then (match bl[b' - nid]? with | some k => k | none => .dead) else (s.puts ws).blk b' := by
              intro b'
              rw [puts_cons, blk_put1, newBs_look]
              by_cases h0 : b = b'
              · rw [if_pos h0, if_pos h0]
              · rw [if_neg h0, if_neg h0]
                by_cases h1 : nid ≤ b'
                · rw [if_pos h1]
                  by_cases h2 : b' < nid + bl.length
                  · rw [if_pos ⟨h1, h2⟩, List.getElem?_eq_getElem (by omega)]
                  · rw [if_neg (by omega), List.getElem?_eq_none (by omega)]
                · rw [if_neg h1, if_neg (by omega)]
            have nb : ∀ b', nid ≤ b' ∧ b' < nid + bl.length → ∃ k v', bl[b' - nid]? = some k ∧ okB k = true ∧ ρ' (b' - nid + 1) = some v' ∧ BR U (fun g => w.heap.size ≤ g) ρ' M' w' v' k := by
              intro b' hb
              have hi : b' - nid < bl.length := by omega
              obtain ⟨v', h1, h0, h2⟩ := A.blks (b' - nid) _ (List.getElem?_eq_getElem hi)
              exact ⟨_, v', List.getElem?_eq_getElem hi, h0, h1, h2⟩
            refine F1.mr.step (fun b' => b' = b ∨ (nid ≤ b' ∧ b' < nid + bl.length)) hfr hle A.le hbs (fun j o hj => A.old j o (hnown j hj)) A.sub (fun b' hb' => ⟨by rw [key, if_neg (fun e => hb' (.inl e.symm)), if_neg (fun e => hb' (.inr e))], fun v1 g hl1 hv1 hg1 => hold b' v1 g (fun e => hb' (.inl e)) hl1 hv1 hg1⟩) (fun b' hb' => ?_) ?_
            · rcases hb' with rfl | hb'
              · exact .inr ⟨u, hle _ _ hρb, by rw [key, if_pos rfl]; exact hBk⟩
              · obtain ⟨k, v', h1, h0, h2, h3⟩ := nb b' hb'
                refine .inr ⟨v', by simp only [ρ'']; rw [if_pos hb']; exact h2, ?_⟩
                rw [key, if_neg (fun (e : b = b') => hbn (by rw [e]; exact hb')), if_pos hb', h1]
                exact h3.okr hU h0 (fun g _ hg => (.inl (Nat.le_trans hsize hg) : w0.own g))
            · have cls : ∀ b1 v1 g, ((s.puts ((b, k') :: (newBs nid bl ++ ws))).blk b1).live = true → ρ'' b1 = some v1 → blockOf v1 = some g → (nid ≤ b1 ∧ b1 < nid + bl.length ∧ ρ' (b1 - nid + 1) = some v1 ∧ w.heap.size ≤ g) ∨ (((s.puts ws).blk b1).live = true ∧ ρ b1 = some v1 ∧ g < w.heap.size) := by
                intro b1 v1 g hl1 hv1 hg1
                by_cases hb : nid ≤ b1 ∧ b1 < nid + bl.length
                · simp only [ρ''] at hv1
                  rw [if_pos hb] at hv1
                  obtain ⟨k, v2, _, h0, h2, h3⟩ := nb b1 hb
                  rw [hv1] at h2
                  cases h2
                  exact .inl ⟨hb.1, hb.2, hv1, h3.okb h0 hg1⟩
                · simp only [ρ''] at hv1
                  rw [if_neg hb] at hv1
                  have hl2 : ((s.puts ws).blk b1).live = true := by
                    rw [key] at hl1
                    split at hl1
                    · rename_i e; subst e; exact hlb
                    · first | exact hl1 | (rw [if_neg hb] at hl1; exact hl1)
                  exact .inr ⟨hl2, hv1, (F1.mr.lt hl2 hv1 hg1).1⟩
              intro b1 b2 v1 v2 g l1 l2 e1 e2 g1 g2
              rcases cls b1 v1 g l1 e1 g1 with ⟨x1, x2, x3, x4⟩ | ⟨x1, x2, x3⟩ <;> rcases cls b2 v2 g l2 e2 g2 with ⟨y1, y2, y3, y4⟩ | ⟨y1, y2, y3⟩
              · obtain ⟨_, _, p1, _⟩ := nb b1 ⟨x1, x2⟩
                obtain ⟨_, _, p2, _⟩ := nb b2 ⟨y1, y2⟩
                have := A.inj _ _ _ _ v1 v2 g p1 p2 x3 y3 g1 g2
                omega
              · omega
              · omega
              · exact F1.mr.inj b1 b2 v1 v2 g x1 y1 x2 y2 g1 g2
        · exact dead
    · simp [RQ.run] at h
  · simp [RQ.run] at h
end
end Go.Sx
