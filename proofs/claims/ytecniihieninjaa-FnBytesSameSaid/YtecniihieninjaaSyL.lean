/- An evaluator of the model's code over symbolic values, and its soundness: part 10. No condition. -/
import Derived.Test.YtecniihieninjaaSyK
set_option linter.unusedVariables false
set_option linter.unusedSimpArgs false
namespace Go.Sx
open Go.RowKit
variable {T : Nat → Type} {U : Univ T} {P : Program}

section
variable {w0 : Frm} {M0 : Mem} {nt nid : Nat} {s : St T} {a : Act} {w : World} {ρ : Nat → Option Value} {M : Mem} {c : Step T} {o : Oper} {Tb : Calls_ T} {α : Type 1} {r : α}

theorem below_row (h : Fr w0 w) {g : Nat} (hg : w0.own g) (cs : Array Value) : Fr w0 (w.setRow g cs) :=
  ⟨h.os, h.tape, h.output, by simpa using h.size, fun k hk => (setRow_other w g k cs (by rintro rfl; exact hk hg)).trans (h.block k hk)⟩

/-- One live block's row is another one. -/
theorem MR.put (h : MR U w0 M0 s.blk ρ M w) {b g : Nat} {v : Value} {k : Blk T} {cs : Array Value} (hl : (s.blk b).live = true) (hv : ρ b = some v) (hg : blockOf v = some g) (hM : Free M g) (hbase : w0.own g)
    (hk : BR U w0.own ρ M (w.setRow g cs) v k) : MR U w0 M0 (s.puts [(b, k)]).blk ρ M (w.setRow g cs) := by
  refine h.step (fun b' => b' = b) (below_row h.fr hbase cs) (.refl _) (.refl _) (h.same fun B hB g' x hx => setRow_other w g g' cs (fun e => by rw [e, hM.2 B hB] at hx; cases hx)) (fun _ _ _ => rfl) ?_ ?_ ?_ ?_
  · intro g' o u hu
    have hc := h.sub _ _ _ hu
    rw [cell_setRow_other]
    · exact hc
    · intro e
      simp only at e
      subst e
      rw [hM.1 o] at hu
      cases hu
  · intro b' hb'
    refine ⟨by rw [blk_put1, if_neg (Ne.symm hb')], fun v1 g1 hl1 hv1 hg1 => ⟨setRow_other w g g1 cs fun e => ?_, .refl _ _⟩⟩
    subst e
    exact hb' (h.inj b' b v1 v g1 hl1 hl hv1 hv hg1 hg)
  · intro b' hb'
    subst hb'
    exact .inr ⟨v, hv, by rw [blk_put1, if_pos rfl]; exact hk⟩
  · have live : ∀ b', ((s.puts [(b, k)]).blk b').live = true → (s.blk b').live = true := by
      intro b' hl'
      rw [blk_put1] at hl'
      split at hl'
      · rename_i e; subst e; exact hl
      · exact hl'
    exact fun b1 b2 v1 v2 g' h1 h2 e1 e2 g1 g2 => h.inj b1 b2 v1 v2 g' (live _ h1) (live _ h2) e1 e2 g1 g2

theorem store_run {t n : Nat} {p x : Operand} {g off : Nat} {cur : Array Value} {t' : Nat} (ho : o.op = .store t p x) (hp : a.eval p = .pointer (some ⟨g, off, none⟩)) (hh : w.heap[g]? = some (.cells cur t' (0, 0)))
    (hn : szOf P t = some n) (hl : n = (a.eval x).cells.toList.length) (h1 : ∀ v ∈ (a.eval x).cells.toList, v.oneCell' = true) (hle : off + (a.eval x).cells.toList.length ≤ cur.size) :
    (execOp a.eval o).run P w = .ok .skip (w.setRow g (cur.toList.take off ++ (a.eval x).cells.toList ++ cur.toList.drop (off + (a.eval x).cells.toList.length)).toArray) := by
  obtain ⟨i, hi, hsz⟩ := szOf_run hn
  have hst := run_storeCells_at P g off t' (a.eval x).cells.toList 0 cur w hh (by simpa using hle) h1
  simp only [Nat.add_zero] at hst
  have hs : ¬ ((a.eval x).cells.size ≠ i.size) := by
    rw [hsz, hl]
    simp
  simp only [execOp, ho, hp]
  simp [Instr.storeAt, Instr.sureAddr, storeVar, sizeOf, typeInfo, hi, hst]
  have : (a.eval x).cells.size = i.size := by simpa using hs
  simp [this]

theorem good_store (hU : UOk U) (R : Rl U w0 M0 nt s nid a w ρ M) {t : Nat} {p x : Operand} (ho : o.op = .store t p x)
    (h : (opQ P U Tb nid (.store t p x)).run s = some c) : Good P U w0 M0 s nid ρ M a w o c := by
  simp only [opQ] at h
  obtain ⟨sp, hp, h⟩ := rdO_run h
  have vp := hp.vr R
  split at h
  · rename_i b off
    simp only [RQ.run] at h
    split at h
    · rename_i t' cs hb
      obtain ⟨sx, hx, h⟩ := rdO_run h
      obtain ⟨us, hus, h⟩ := optQ_run h
      have hv := (hx.vr R).cells? hus
      split at h
      · rename_i n hn
        split at h
        · rename_i hnl
          obtain ⟨cs', hcs, h⟩ := optQ_run h
          simp only [RQ.run, Option.some.injEq] at h
          subst h
          obtain ⟨g, vs, hρ, hbase, hh, hcr, hM⟩ := R.mr.cells hb
          generalize hpe : a.eval p = pv at vp
          cases vp with
          | ptr _ g' _ hρ' =>
            rw [hρ] at hρ'
            cases hρ'
            unfold splice at hcs
            split at hcs
            · rename_i hle
              have hle' : off + us.length ≤ cs.length := Nat.le_of_ble_eq_true hle
              simp only [Option.some.injEq] at hcs
              subst hcs
              have hl1 := hcr.len
              have hl2 := hv.len
              simp only [Array.length_toList] at hl1
              intro _ _ _
              refine .inr (.inl ⟨_, store_run ho hpe hh hn ((beq_eq hnl).trans hl2) hv.one (by rw [← hl2]; omega), ρ, M, .refl _, .refl _, fun _ _ h => h, ?_, .any _⟩)
              refine R.mr.put (by rw [hb]; rfl) hρ rfl hM hbase ⟨g, _, rfl, hbase, setRow_heap w g vs _ t' _ hh, ?_, hM⟩
              simpa using hcr.splice hv off
            · cases hcs
        · simp [RQ.run] at h
      · simp [RQ.run] at h
    · simp [RQ.run] at h
  · rename_i b te i off
    simp only [RQ.run] at h
    split at h
    · rename_i te' xs hb
      split at h
      · rename_i hte
        have hte' := beq_eq hte
        subst hte'
        obtain ⟨sx, hx, h⟩ := rdO_run h
        obtain ⟨us, hus, h⟩ := optQ_run h
        have hv0 := (hx.vr R).cells? hus
        obtain ⟨us', ws, M', F, h⟩ := frzL_run hU R.mr h
        split at h
        · rename_i n hn
          split at h
          · rename_i hnl
            obtain ⟨cs', hcs, h⟩ := optQ_run h
            obtain ⟨e, he, h⟩ := optQ_run h
            split at h
            · rename_i hnot
              simp only [RQ.run, Option.some.injEq] at h
              subst h
              intro hc _ _
              obtain ⟨h0, h1⟩ : 0 ≤ i ∧ i < (xs.length : Int) := by simpa [Step.if_] using hc
              have hi : i.toNat < xs.length := by omega
              have hb' : (s.puts ws).blk b = .arr te xs := by
                rw [F.out b fun q hq hqb => ?_, hb]
                have := List.all_eq_true.1 hnot q hq
                simp [hqb] at this
              have hv : CR U ρ M' us' (a.eval x).cells.toList := ⟨by rw [F.len]; exact hv0.len, hv0.one, fun j h1 h2 => F.vr j (by rw [← F.len]; exact h1) h1 _ (hv0.at_ j (by rw [← F.len]; exact h1) h2)⟩
              obtain ⟨v, hρ, cl, hown, hcr, hM⟩ := F.mr.arr hb'
              generalize hpe : a.eval p = pv at vp
              cases vp with
              | eptr _ g n' cp _ _ _ hρ' =>
                rw [hρ] at hρ'
                cases hρ'
                rcases hown.2 with ⟨e', _⟩ | ⟨g', cap', cur, e', hbase, hh, hnc, hcm, hcsz, htake⟩
                · cases e'
                · cases e'
                  rw [rd_at h0 h1] at hcs
                  unfold splice at hcs
                  split at hcs
                  · rename_i hle
                    have hle' : off + us'.length ≤ (U.enc te xs[i.toNat]).length := Nat.le_of_ble_eq_true hle
                    rw [hU.len] at hle'
                    simp only [Option.some.injEq] at hcs
                    subst hcs
                    have hl2 := hv.len
                    have hmul := Nat.mul_le_mul_right (U.sz te) (show i.toNat + 1 ≤ xs.length from hi)
                    rw [Nat.succ_mul] at hmul
                    have hmul2 := Nat.mul_le_mul_right (U.sz te) hnc
                    have hfit : i.toNat * U.sz te + off + (a.eval x).cells.toList.length ≤ cur.size := by rw [hcsz, ← hl2]; omega
                    refine .inr (.inl ⟨_, store_run ho hpe hh hn ((beq_eq hnl).trans hl2) hv.one hfit, ρ, M', .refl _, F.le, fun _ _ h => h, ?_, .any _⟩)
                    show MR U w0 M0 ((s.puts ws).puts [(b, .arr te (xs.set i.toNat e))]).blk ρ M' _
                    have hlen : cl.length = xs.length * U.sz te := hown.1
                    -- the new content
                    have hnew := hU.dec te _ e he ρ M' _ ((hcr.elem hU hi).splice hv off)
                    have A := hcr.take (i.toNat * U.sz te)
                    rw [flat_take hU] at A
                    have B := hcr.drop ((i.toNat + 1) * U.sz te)
                    rw [flat_drop hU] at B
                    have hall := A.append (hnew.append B)
                    have hset : (xs.set i.toNat e).flatMap (U.enc te) = (xs.take i.toNat).flatMap (U.enc te) ++ (U.enc te e ++ (xs.drop (i.toNat + 1)).flatMap (U.enc te)) := by
                      rw [List.set_eq_take_append_cons_drop, if_pos hi, List.flatMap_append, List.flatMap_cons]
                    rw [← hset] at hall
                    refine F.mr.put (by rw [hb']; rfl) hρ rfl (hM g rfl) (F.mr.arr_own hb' hρ rfl) ⟨_, ?_, hall, hM, fun g' hg' => F.mr.arr_own hb' hρ hg'⟩
                    refine ⟨?_, .inr ⟨g, cp, _, by simp, hbase, setRow_heap w g cur _ te _ hh, by simpa using hnc, hcm, ?_, ?_⟩⟩
                    · have := hall.len
                      rw [flat_len hU] at this
                      exact this.symm
                    · simp only [List.size_toArray, List.length_append, List.length_take, List.length_drop, Array.length_toList, hcsz]
                      rw [hcsz] at hfit
                      simp only [Array.length_toList] at hfit
                      omega
                    · simp only [List.length_set]
                      have e3 : (i.toNat + 1) * U.sz te = i.toNat * U.sz te + U.sz te := Nat.succ_mul _ _
                      generalize hV : (a.eval x).cells.toList = V at *
                      generalize i.toNat * U.sz te = m at *
                      have hcur : cur.toList.length = cur.size := by simp
                      rw [← htake]
                      apply List.ext_getElem?
                      intro j
                      simp only [List.getElem?_take, List.getElem?_append, List.length_append, List.length_take, List.length_drop, List.getElem?_drop, e3, hcur]
                      have q1 : min (m + off) cur.size = m + off := by omega
                      have q2 : min m (min (xs.length * U.sz te) cur.size) = m := by omega
                      have q3 : min off (min (U.sz te) (min (xs.length * U.sz te) cur.size - m)) = off := by omega
                      simp only [q1, q2, q3]
                      by_cases c0 : j < xs.length * U.sz te
                      · rw [if_pos c0]
                        by_cases c1 : j < m
                        · simp [show j < m + off + V.length by omega, show j < m + off by omega, c1, c0]
                        · by_cases c2 : j < m + off
                          · simp only [show j < m + off + V.length by omega, c2, if_true, c1, if_false, show j - m < off by omega, show j - m < U.sz te by omega, show j - m < off + V.length + (min (U.sz te) (min (xs.length * U.sz te) cur.size - m) - (off + V.length)) by omega, show j - m < off + V.length by omega, show m + (j - m) = j by omega, c0]
                          · by_cases c3 : j < m + off + V.length
                            · simp only [c3, c2, c1, if_true, if_false, show ¬ j - m < off by omega, show j - m < off + V.length by omega, show j - m < off + V.length + (min (U.sz te) (min (xs.length * U.sz te) cur.size - m) - (off + V.length)) by omega, show j - (m + off) = j - m - off by omega]
                            · by_cases c4 : j < m + U.sz te
                              · simp only [c3, c2, c1, if_true, if_false, show ¬ j - m < off + V.length by omega, show j - m < off + V.length + (min (U.sz te) (min (xs.length * U.sz te) cur.size - m) - (off + V.length)) by omega, show off + V.length + (j - m - (off + V.length)) < U.sz te by omega,
                                  show m + (off + V.length + (j - m - (off + V.length))) = j by omega, show m + off + V.length + (j - (m + off + V.length)) = j by omega, c0]
                              · simp only [c3, c2, c1, if_true, if_false, show ¬ j - m < off + V.length + (min (U.sz te) (min (xs.length * U.sz te) cur.size - m) - (off + V.length)) by omega,
                                  show m + off + V.length + (j - (m + off + V.length)) = j by omega, show m + U.sz te + (j - m - (off + V.length + (min (U.sz te) (min (xs.length * U.sz te) cur.size - m) - (off + V.length)))) = j by omega, c0]
                      · rw [if_neg c0]
                        have d1 : ¬ j < m := by omega
                        have d2 : ¬ j - m < off + V.length + (min (U.sz te) (min (xs.length * U.sz te) cur.size - m) - (off + V.length)) := by omega
                        rw [if_neg d1, if_neg d2, if_neg (by omega)]
                  · cases hcs
            · simp [RQ.run] at h
          · simp [RQ.run] at h
        · simp [RQ.run] at h
      · simp [RQ.run] at h
    · simp [RQ.run] at h
  · simp [RQ.run] at h
end
end Go.Sx
