/- An evaluator of the model's code over symbolic values, and its soundness: part 13. No condition. -/
import Derived.Test.YtjjblclmpjaegaaSxN
set_option linter.unusedVariables false
set_option linter.unusedSimpArgs false
namespace Go.Sx
open Go.RowKit
variable {T : Nat → Type} {U : Univ T} {P : Program}

/-- What a called function answers: its value, and the rows that it made. -/
structure Ans (U : Univ T) (w : World) (M : Mem) (sv : SV T) (bl : List (Blk T)) (v : Value) (w' : World) (ρ' : Nat → Option Value) (M' : Mem) : Prop where
  bel : Below w.heap.size w w'
  le : LeM M M'
  old : ∀ b o, b < w.heap.size → M' b o = M b o
  sub : ∀ b o v, M' b o = some v → w'.cell? ⟨b, o, none⟩ = some v
  vr : VR U ρ' M' sv v
  blk : ∀ i k, bl[i]? = some k → ∃ v', ρ' i = some v' ∧ BR U w.heap.size ρ' M' w' v' k
  inj : ∀ i j ki kj vi vj g, bl[i]? = some ki → bl[j]? = some kj → ρ' i = some vi → ρ' j = some vj → blockOf vi = some g → blockOf vj = some g → i = j

structure Snd (P : Program) (U : Univ T) (n : Nat) (F : List (SV T) → Option (CallRes T)) : Prop where
  enter : ∃ fn, P.funcs[n]? = some fn ∧ (fn.name == "runtime.NumGoroutine") = false ∧ fn.body.isNone = false
  run : ∀ l c x, F l = some c → c.run = some x → ∀ (w : World) (M : Mem) (vs : List Value), (∀ b o v, M b o = some v → w.cell? ⟨b, o, none⟩ = some v) → VRs U (fun _ => none) M l vs →
    Calls P n vs.toArray w fun e w' => ∃ v ρ' M', e = .returned v ∧ Ans U w M (c.out x).1 (c.out x).2 v w' ρ' M'

section
variable {w0 : World} {M0 : Mem} {nt nid : Nat} {s : St T} {a : Act} {w : World} {ρ ρ' : Nat → Option Value} {M : Mem} {c : Step T} {o : Oper} {Tb : Calls_ T} {α : Type 1} {r : α}

theorem newBs_look (s : St T) (w : List (Nat × Blk T)) : ∀ (bl : List (Blk T)) (nid b : Nat), (s.puts (newBs nid bl ++ w)).blk b = if nid ≤ b then (match bl[b - nid]? with | some k => k | none => (s.puts w).blk b) else (s.puts w).blk b
  | [], nid, b => by simp [newBs]
  | k :: bl, nid, b => by
    show (s.puts ((nid, k) :: (newBs (nid + 1) bl ++ w))).blk b = _
    rw [puts_cons, blk_put1, newBs_look s w bl (nid + 1) b]
    by_cases e : nid = b
    · subst e; simp
    · rw [if_neg e]
      by_cases h : nid ≤ b
      · rw [if_pos (by omega), if_pos h]
        have : b - nid = (b - (nid + 1)) + 1 := by omega
        rw [this, List.getElem?_cons_succ]
      · rw [if_neg (by omega), if_neg h]

theorem BR.lower {base base' : Nat} {v : Value} {k : Blk T} (h : BR U base ρ M w v k) (hb : base' ≤ base) : BR U base' ρ M w v k := by
  cases k with
  | dead => trivial
  | cells t cs => obtain ⟨g, vs, e, h1, rest⟩ := h; exact ⟨g, vs, e, Nat.le_trans hb h1, rest⟩
  | arr t xs =>
    obtain ⟨cl, ⟨ho1, ho2⟩, rest⟩ := h
    refine ⟨cl, ⟨ho1, ?_⟩, rest⟩
    rcases ho2 with h0 | ⟨g, cap, cur, e, h1, rest⟩
    · exact .inl h0
    · exact .inr ⟨g, cap, cur, e, Nat.le_trans hb h1, rest⟩
  | frz t xs => exact h

theorem call_enter {cl : Call} {f : Operand} {n : Nat} {x y : Array Value} (ho : o.op = .call cl) (hc : cl.callee = .value f) (hf : a.eval f = .func (.func n) x y) (hx : x = #[]) (hy : y = #[])
    (he : ∃ fn, P.funcs[n]? = some fn ∧ (fn.name == "runtime.NumGoroutine") = false ∧ fn.body.isNone = false) :
    (execOp a.eval o).run P w = .ok (.enter n (cl.args.map a.eval)) w := by
  obtain ⟨fn, h1, h2, h3⟩ := he
  subst hx
  subst hy
  have h2' : ¬ fn.name = "runtime.NumGoroutine" := by simpa using h2
  have h3' : ¬ fn.body = none := by intro e; rw [e] at h3; simp at h3
  simp [execOp, ho, resolve, hc, hf, Deferred.ofValue, invoke, callFunc, program, Sem.run, h1, h2', h3']

theorem norm1_vr (hU : UOk U) {t : Nat} {x : SV T} {v : Value} (h : VR U ρ M x v) : VR U ρ M (norm1 P U t x) v := by
  unfold norm1
  split
  · split
    · cases h
      exact .row _ [] none 0 (fun _ _ => undef) (Nat.le_refl _) (fun _ => ⟨rfl, rfl⟩) (fun a ha => by cases ha) (fun a ha => by cases ha) (fun i hi => by simp at hi) (fun i hi => by simp at hi)
    · exact h
  · rename_i cs
    split
    · rename_i y hy
      cases h with
      | agg _ vs hl hf hv => exact (hU.dec t cs y hy ρ M vs ⟨hl, hf, hv⟩).agg
    · exact h
  · exact h

theorem normL_vr (hU : UOk U) : ∀ {ts : List Nat} {l : List (SV T)} {vs : List Value}, VRs U ρ M l vs → VRs U ρ M (normL P U ts l) vs
  | [], l, vs, h => by unfold normL; exact h
  | t :: ts, [], vs, h => by unfold normL; exact h
  | t :: ts, x :: l, vs, h => by
    obtain ⟨v, vs', rfl, hx, hr⟩ := h.uncons
    unfold normL
    exact .cons (norm1_vr hU hx) (normL_vr hU hr)

theorem good_call (hU : UOk U) (hT : ∀ n F, Tb n = some F → Snd P U n F) (R : Rl U w0 M0 nt s nid a w ρ M) {cl : Call} {f : Operand} (ho : o.op = .call cl) (hcl : cl.callee = .value f)
    (h : (opQ P U Tb nid (.call cl)).run s = some c) : Good P U w0 M0 s nid ρ M a w o c := by
  simp only [opQ, hcl] at h
  obtain ⟨sf, hf, h⟩ := rdO_run h
  have vf := hf.vr R
  split at h
  · rename_i n fx fy
    split at h
    · rename_i hsz
      have hsz' := beq_eq hsz
      have hfx : fx = #[] := Array.eq_empty_of_size_eq_zero (by omega)
      have hfy : fy = #[] := Array.eq_empty_of_size_eq_zero (by omega)
      generalize hfe : a.eval f = fv at vf
      cases vf
      obtain ⟨l, hl, h⟩ := rdOs_run h
      unfold callQ at h
      split at h
      · simp [RQ.run] at h
      · rename_i F hF
        have S := hT n F hF
        obtain ⟨q, ws, M1, hle, F1, hg, hv, h⟩ := argL_run hU (ws0 := []) (Mb := M) ⟨.refl _, R.mr, fun p hp => by simp at hp⟩ h
        rw [List.append_nil] at F1
        split at h
        · simp [RQ.run] at h
        · rename_i hnr
          split at h
          · simp [RQ.run] at h
          · rename_i cr hcr
            simp only [RQ.run, Option.some.injEq] at h
            subst h
            intro _ x hx
            simp only at x hx ⊢
            -- the arguments
            obtain ⟨hlen, hvr⟩ := hl.vr R
            have hargs : VRs U ρ M l (cl.args.map a.eval).toList := ⟨by simpa using hlen, fun i h1 h2 => by
              have := hvr i h1 (by rw [← hlen]; exact h1)
              simpa using this⟩
            have hq0 := hv _ hargs
            have hq := normL_vr (P := P) (ts := cl.argTypes.toList) hU hq0
            have hq' : VRs U (fun _ => none) M1 (normL P U cl.argTypes.toList q) (cl.args.map a.eval).toList := ⟨hq.1, fun i h1 h2 => (hq.2 i h1 h2).nr hU (List.all_eq_true.1 hnr _ (List.getElem_mem h1))⟩
            have C := S.run _ cr x hcr hx w M1 _ F1.mr.sub hq'
            refine .inr (.inr ⟨n, cl.args.map a.eval, call_enter ho hcl hfe hfx hfy S.enter, ?_⟩)
            have hta : (cl.args.map a.eval).toList.toArray = cl.args.map a.eval := Array.toArray_toList
            rw [hta] at C
            refine C.mono ?_
            rintro e w' ⟨v, ρ', M', rfl, A⟩
            refine ⟨v, rfl, ?_⟩
            have hsize : w0.heap.size ≤ w.heap.size := R.mr.fr.size
            have hfr : Below w0.heap.size w0 w' := R.mr.fr.trans (A.bel.mono hsize)
            have hmo : ∀ b o, b < w0.heap.size → M' b o = M1 b o := fun b o hb => A.old b o (by omega)
            have hold : ∀ b v g, ((s.puts ws).blk b).live = true → ρ b = some v → blockOf v = some g → w'.heap[g]? = w.heap[g]? ∧ ∀ o, M' g o = M1 g o := fun b v g hl hv hg =>
              have hlt := (F1.mr.lt hl hv hg).1
              ⟨A.bel.block g hlt, fun o => A.old g o hlt⟩
            unfold outOf
            split
            · rename_i hchk
              simp only [Bool.and_eq_true] at hchk
              obtain ⟨hk8, harr⟩ := hchk
              have hk : (cr.out x).2.length ≤ 8 := Nat.le_of_ble_eq_true hk8
              generalize hsv : (cr.out x).1 = sv at A
              generalize hbl : (cr.out x).2 = bl at A hk harr
              let ρ'' : Nat → Option Value := fun b => if nid ≤ b ∧ b < nid + bl.length then ρ' (b - nid) else ρ b
              have hle : LeR ρ ρ'' := by
                intro b u hu
                simp only [ρ'']
                split
                · rename_i hb
                  rw [R.nw b hb.1 (by omega)] at hu
                  cases hu
                · exact hu
              have hren : Ren (fun b => match Nat.blt b bl.length with | true => some (nid + b) | false => none) ρ' ρ'' := by
                intro b d u hb hu
                simp only at hb
                split at hb
                · rename_i hlt
                  have hlt' : b < bl.length := by simpa [Nat.blt_eq] using hlt
                  cases hb
                  simp only [ρ'']
                  rw [if_pos (by omega), Nat.add_sub_cancel_left]
                  exact hu
                · cases hb
              refine ⟨ρ'', M', hle, F1.le.trans A.le, fun b hb hb' => ?_, ?_, A.vr.rn hU hren⟩
              · simp only [ρ'']
                rw [if_neg (by omega)]
                exact hb'
              · have key : ∀ b, (s.puts (newBs nid bl ++ ws)).blk b = if nid ≤ b ∧ b < nid + bl.length then (match bl[b - nid]? with | some k => k | none => .dead) else (s.puts ws).blk b := by
                  intro b
                  rw [newBs_look]
                  by_cases h1 : nid ≤ b
                  · rw [if_pos h1]
                    by_cases h2 : b < nid + bl.length
                    · rw [if_pos ⟨h1, h2⟩, List.getElem?_eq_getElem (by omega)]
                    · rw [if_neg (by omega), List.getElem?_eq_none (by omega)]
                  · rw [if_neg h1, if_neg (by omega)]
                have nb : ∀ b, nid ≤ b ∧ b < nid + bl.length → ∃ t xs v', bl[b - nid]? = some (.arr t xs) ∧ ρ' (b - nid) = some v' ∧ BR U w.heap.size ρ' M' w' v' (.arr t xs) := by
                  intro b hb
                  have hi : b - nid < bl.length := by omega
                  obtain ⟨v', h1, h2⟩ := A.blk (b - nid) _ (List.getElem?_eq_getElem hi)
                  have := List.all_eq_true.1 harr _ (List.getElem_mem hi)
                  cases hk : bl[b - nid] <;> rw [hk] at this <;> try (cases this; done)
                  rename_i t xs
                  rw [hk] at h2
                  exact ⟨t, xs, v', by rw [List.getElem?_eq_getElem hi, hk], h1, h2⟩
                have ge : ∀ b v' g, nid ≤ b ∧ b < nid + bl.length → ρ' (b - nid) = some v' → blockOf v' = some g → w.heap.size ≤ g := by
                  intro b v' g hb hv' hg
                  obtain ⟨t, xs, v2, _, h2, h3⟩ := nb b hb
                  rw [hv'] at h2
                  cases h2
                  obtain ⟨cl', ho', _⟩ := h3
                  exact (own_block_lt ho' hg).2.1
                refine F1.mr.step (fun b => nid ≤ b ∧ b < nid + bl.length) hfr hle A.le hmo A.sub (fun b hb => ⟨by rw [key, if_neg hb], fun v1 g hl hv1 hg => hold b v1 g hl hv1 hg⟩) (fun b hb => ?_) ?_
                · obtain ⟨t, xs, v', h1, h2, h3⟩ := nb b hb
                  refine .inr ⟨v', by simp only [ρ'']; rw [if_pos hb]; exact h2, ?_⟩
                  rw [key, if_pos hb, h1]
                  obtain ⟨cl', ho', hc', hm'⟩ := h3.lower hsize
                  refine ⟨cl', ho', ⟨hc'.len, hc'.one, fun i h1 h2 => (hc'.at_ i h1 h2).nr1 hU ?_⟩, hm'⟩
                  have := List.getElem_mem h1
                  obtain ⟨y, _, hy⟩ := List.mem_flatMap.1 this
                  exact List.all_eq_true.1 (hU.nr t y) _ hy
                · have split_ : ∀ b v1, ((s.puts (newBs nid bl ++ ws)).blk b).live = true → ρ'' b = some v1 → (nid ≤ b ∧ b < nid + bl.length ∧ ρ' (b - nid) = some v1) ∨ (((s.puts ws).blk b).live = true ∧ ρ b = some v1) := by
                    intro b v1 hl hv1
                    by_cases hb : nid ≤ b ∧ b < nid + bl.length
                    · simp only [ρ''] at hv1
                      rw [if_pos hb] at hv1
                      exact .inl ⟨hb.1, hb.2, hv1⟩
                    · rw [key, if_neg hb] at hl
                      simp only [ρ''] at hv1
                      rw [if_neg hb] at hv1
                      exact .inr ⟨hl, hv1⟩
                  intro b1 b2 v1 v2 g l1 l2 e1 e2 g1 g2
                  rcases split_ b1 v1 l1 e1 with ⟨x1, x2, x3⟩ | ⟨x1, x2⟩ <;> rcases split_ b2 v2 l2 e2 with ⟨y1, y2, y3⟩ | ⟨y1, y2⟩
                  · obtain ⟨_, _, _, p1, _⟩ := nb b1 ⟨x1, x2⟩
                    obtain ⟨_, _, _, p2, _⟩ := nb b2 ⟨y1, y2⟩
                    have := A.inj _ _ _ _ v1 v2 g p1 p2 x3 y3 g1 g2
                    omega
                  · have := ge b1 v1 g ⟨x1, x2⟩ x3 g1
                    have := (F1.mr.lt y1 y2 g2).1
                    omega
                  · have := ge b2 v2 g ⟨y1, y2⟩ y3 g2
                    have := (F1.mr.lt x1 x2 g1).1
                    omega
                  · exact F1.mr.inj b1 b2 v1 v2 g x1 y1 x2 y2 g1 g2
            · refine ⟨ρ, M', .refl _, F1.le.trans A.le, fun _ _ h => h, ?_, .any _⟩
              exact F1.mr.step (fun _ => False) hfr (.refl _) A.le hmo A.sub (fun b _ => ⟨rfl, fun v1 g hl hv1 hg => hold b v1 g hl hv1 hg⟩) (fun _ h => h.elim) F1.mr.inj
    · simp [RQ.run] at h
  · simp [RQ.run] at h
end
end Go.Sx
