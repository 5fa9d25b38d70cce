/- An evaluator of the model's code over symbolic values, and its soundness: part 3. No condition. -/
import Derived.Test.YtecniihieninjaaSyD
set_option linter.unusedVariables false
set_option linter.unusedSimpArgs false
namespace Go.Sx
open Go.RowKit
variable {T : Nat → Type} {U : Univ T} {P : Program}

section
variable {w0 : Frm} {M0 : Mem} {nt nid : Nat} {s : St T} {a : Act} {w : World} {ρ : Nat → Option Value} {M : Mem} {c : Step T} {o : Oper} {Tb : Calls_ T}

theorem add_at (g i k : Nat) : (⟨g, i, none⟩ : Addr).add k = ⟨g, i + k, none⟩ := by unfold Addr.add; split <;> simp_all

theorem beq_eq {a b : Nat} (h : Nat.beq a b = true) : a = b := Nat.eq_of_beq_eq_true h

theorem ld_run {t : Nat} {cs : List (SV T)} {vs : List Value} {off g o : Nat} {sv : SV T} (hc : CR U ρ M cs vs) (hw : ∀ j u, vs[j]? = some u → w.cell? ⟨g, o + j, none⟩ = some u)
    (h : ld P t cs off = some sv) : ∃ v, (loadVar t ⟨g, o + off, none⟩).run P w = .ok v w ∧ VR U ρ M sv v := by
  unfold ld at h
  split at h
  · cases h
  rename_i n hn
  have hinfo : ∃ i, P.info? t = some i ∧ i.size = n := by
    unfold szOf at hn
    cases hi : P.info? t with
    | none => simp [hi] at hn
    | some i => exact ⟨i, rfl, by simpa [hi] using hn⟩
  obtain ⟨i, hi, hsz⟩ := hinfo
  have hagg : ∀ b, aggOf P t = some b → (isAgg t).run P w = .ok b w := by
    intro b hb
    unfold aggOf at hb
    cases hu : P.underlying t with
    | none => simp [hu] at hb
    | some d =>
      unfold isAgg
      rw [Sem.run_bind, run_underlying hu w]
      rw [hu] at hb
      cases d <;> simp at hb <;> subst hb <;> rfl
  split at h
  · rename_i hag
    split at h
    · rename_i hle
      simp only [Option.some.injEq] at h
      subst h
      have hle' : off + n ≤ cs.length := Nat.le_of_ble_eq_true hle
      have hl := hc.len
      refine ⟨.agg ((vs.drop off).take n).toArray, ?_, ((hc.drop off).take n).agg⟩
      have hlen : ((vs.drop off).take n).length = n := by simp; omega
      have := run_loadCells_list (P := P) w ⟨g, o + off, none⟩ ((vs.drop off).take n) (fun j v hj => by
        rw [add_at]
        rw [List.getElem?_take] at hj
        split at hj
        · rw [List.getElem?_drop] at hj
          have := hw _ _ hj
          rwa [Nat.add_assoc]
        · cases hj)
      rw [hlen] at this
      simp [loadVar, hagg _ hag, sizeOf, typeInfo, hi, hsz, this]
    · cases h
  · rename_i hag
    obtain ⟨v, hv, _, hvr⟩ := hc.get h
    refine ⟨v, ?_, hvr⟩
    simp [loadVar, hagg _ hag, hw _ _ hv]
  · cases h

theorem MR.cells (h : MR U w0 M0 s.blk ρ M w) {b t : Nat} {cs : List (SV T)} (hb : s.blk b = .cells t cs) : ∃ g vs, ρ b = some (.pointer (some ⟨g, 0, none⟩)) ∧ w0.own g ∧ w.heap[g]? = some (.cells vs t (0, 0)) ∧ CR U ρ M cs vs.toList ∧ Free M g := by
  rcases h.blk b with d | ⟨_, d⟩ | ⟨v, hv, hB⟩
  · rw [hb] at d; cases d
  · rw [hb] at d; cases d
  · rw [hb] at hB
    obtain ⟨g, vs, rfl, rest⟩ := hB
    exact ⟨g, vs, hv, rest⟩

theorem MR.arr (h : MR U w0 M0 s.blk ρ M w) {b t : Nat} {xs : List (T t)} (hb : s.blk b = .arr t xs) : ∃ v, ρ b = some v ∧ ∃ cl, w.ownsRow 0 t (U.sz t) v xs.length cl ∧ CR U ρ M (xs.flatMap (U.enc t)) cl ∧ ∀ g, v.ownBlock = some g → Free M g := by
  rcases h.blk b with d | ⟨_, d⟩ | ⟨v, hv, hB⟩
  · rw [hb] at d; cases d
  · rw [hb] at d; cases d
  · rw [hb] at hB
    obtain ⟨cl, h1, h2, h3, _⟩ := hB
    exact ⟨v, hv, cl, h1, h2, h3⟩
theorem MR.arr_own (h : MR U w0 M0 s.blk ρ M w) {b t : Nat} {xs : List (T t)} (hb : s.blk b = .arr t xs) {v : Value} (hv : ρ b = some v) {g : Nat} (hg : v.ownBlock = some g) : w0.own g := by
  rcases h.blk b with d | ⟨_, d⟩ | ⟨v', hv', hB⟩
  · rw [hb] at d; cases d
  · rw [hb] at d; cases d
  · rw [hb] at hB
    obtain ⟨cl, _, _, _, h4⟩ := hB
    rw [hv] at hv'
    cases hv'
    exact h4 g hg

theorem MR.frz (h : MR U w0 M0 s.blk ρ M w) {b t : Nat} {xs : List (T t)} (hb : s.blk b = .frz t xs) : ∃ v, ρ b = some v ∧ (∃ a n c, v = .slice a n c) ∧ VR U ρ M (.row t xs) v := by
  rcases h.blk b with d | ⟨_, d⟩ | ⟨v, hv, hB⟩
  · rw [hb] at d; cases d
  · rw [hb] at d; cases d
  · rw [hb] at hB
    exact ⟨v, hv, hB⟩

theorem flat_len (hU : UOk U) (t : Nat) (xs : List (T t)) : (xs.flatMap (U.enc t)).length = xs.length * U.sz t := by
  induction xs with
  | nil => simp
  | cons x l ih => simp [ih, hU.len, Nat.succ_mul, Nat.add_comm]

theorem flat_take (hU : UOk U) (t : Nat) : ∀ (xs : List (T t)) (i : Nat), (xs.flatMap (U.enc t)).take (i * U.sz t) = (xs.take i).flatMap (U.enc t)
  | [], i => by simp
  | x :: l, 0 => by simp
  | x :: l, i + 1 => by
    simp only [List.flatMap_cons, List.take_succ_cons]
    rw [List.take_append, hU.len, Nat.succ_mul, Nat.add_sub_cancel, flat_take hU t l i, List.take_of_length_le (by rw [hU.len]; omega)]

theorem flat_drop (hU : UOk U) (t : Nat) : ∀ (xs : List (T t)) (i : Nat), (xs.flatMap (U.enc t)).drop (i * U.sz t) = (xs.drop i).flatMap (U.enc t)
  | [], i => by simp
  | x :: l, 0 => by simp
  | x :: l, i + 1 => by
    simp only [List.flatMap_cons, List.drop_succ_cons]
    rw [List.drop_append, hU.len, Nat.succ_mul, Nat.add_sub_cancel, flat_drop hU t l i, List.drop_of_length_le (by rw [hU.len]; omega), List.nil_append]

/-- One element's cells. -/
theorem CR.elem (hU : UOk U) {t : Nat} {xs : List (T t)} {cl : List Value} (h : CR U ρ M (xs.flatMap (U.enc t)) cl) {i : Nat} (hi : i < xs.length) :
    CR U ρ M (U.enc t xs[i]) ((cl.drop (i * U.sz t)).take (U.sz t)) := by
  have := (h.drop (i * U.sz t)).take (U.sz t)
  rw [flat_drop hU, List.drop_eq_getElem_cons hi, List.flatMap_cons, List.take_append_of_le_length (by rw [hU.len]; omega), List.take_of_length_le (by rw [hU.len]; omega)] at this
  exact this

theorem rd_at {t : Nat} {xs : List (T t)} {i : Int} (h0 : 0 ≤ i) (h1 : i < (xs.length : Int)) : U.rd xs i = xs[i.toNat]'(by omega) := by
  unfold Univ.rd
  rw [List.getD_eq_getElem?_getD, List.getElem?_eq_getElem (by omega)]
  rfl

theorem good_load (hU : UOk U) (R : Rl U w0 M0 nt s nid a w ρ M) {t : Nat} {p : Operand} (ho : o.op = .load t p)
    (h : (opQ P U Tb nid (.load t p)).run s = some c) : Good P U w0 M0 s nid ρ M a w o c := by
  simp only [opQ] at h
  obtain ⟨sp, hp, h⟩ := rdO_run h
  have vp := hp.vr R
  have run : ∀ ad v, a.eval p = .pointer (some ad) → (loadVar t ad).run P w = .ok v w → (execOp a.eval o).run P w = .ok (.value v) w := by
    intro ad v hv hl
    simp only [execOp, ho, hv]
    exact run_v (by simp [Instr.loadAt, Instr.sureAddr, hl])
  split at h
  · rename_i b off _
    simp only [RQ.run] at h
    split at h
    · rename_i t' cs hb
      obtain ⟨sv, hs, h⟩ := optQ_run h
      simp only [RQ.run, Option.some.injEq] at h
      subst h
      obtain ⟨g, vs, hρ, _, hh, hcr, _⟩ := R.mr.cells hb
      generalize a.eval p = pv at vp run
      cases vp with
      | ptr _ g' _ hρ' =>
        rw [hρ] at hρ'
        cases hρ'
        obtain ⟨v, hl, hv⟩ := ld_run (P := P) (w := w) (g := g) (o := 0) hcr (fun j u hj => by rw [Nat.zero_add, cell_of_row w g j vs t' (0, 0) hh]; simpa using hj) hs
        rw [Nat.zero_add] at hl
        exact .now R (run _ v rfl hl) hv
    · simp [RQ.run] at h
  · rename_i b te i off
    simp only [RQ.run] at h
    split at h
    · rename_i te' xs hb
      split at h
      · rename_i hte
        have hte' := beq_eq hte
        subst hte'
        obtain ⟨sv, hs, h⟩ := optQ_run h
        simp only [RQ.run, Option.some.injEq] at h
        subst h
        intro hc _ _
        obtain ⟨h0, h1⟩ : 0 ≤ i ∧ i < (xs.length : Int) := by simpa [Step.if_] using hc
        obtain ⟨v, hρ, cl, hown, hcr, _⟩ := R.mr.arr hb
        generalize a.eval p = pv at vp run
        cases vp with
        | eptr _ g n cp _ _ _ hρ' =>
          rw [hρ] at hρ'
          cases hρ'
          have hn : xs.length = n := by
            rcases hown.2 with ⟨h, _⟩ | ⟨_, _, _, h, _⟩
            · cases h
            · cases h; rfl
          subst hn
          rw [rd_at h0 h1] at hs
          have hi : i.toNat < xs.length := by omega
          obtain ⟨v, hl, hv⟩ := ld_run (P := P) (w := w) (g := g) (o := i.toNat * U.sz te) (hcr.elem hU hi) (fun j u hj => by
            rw [List.getElem?_take] at hj
            split at hj
            · rename_i hjs
              rw [List.getElem?_drop] at hj
              rw [hown.cellAt _ (by have := Nat.mul_le_mul_right (U.sz te) (show i.toNat + 1 ≤ xs.length from hi); rw [Nat.succ_mul] at this; omega)]
              exact hj
            · cases hj) hs
          exact .val (run _ v rfl hl) (Post.same R hv)
      · simp [RQ.run] at h
    · rename_i te' xs hb
      split at h
      · rename_i hte
        have hte' := beq_eq hte
        subst hte'
        obtain ⟨sv, hs, h⟩ := optQ_run h
        simp only [RQ.run, Option.some.injEq] at h
        subst h
        intro hc _ _
        obtain ⟨h0, h1⟩ : 0 ≤ i ∧ i < (xs.length : Int) := by simpa [Step.if_] using hc
        obtain ⟨v, hρ, _, hrow⟩ := R.mr.frz hb
        generalize a.eval p = pv at vp run
        cases vp with
        | eptr _ g n cp _ _ _ hρ' =>
          rw [hρ] at hρ'
          cases hρ'
          rw [rd_at h0 h1] at hs
          have hi : i.toNat < xs.length := by omega
          cases hrow with
          | row _ _ _ _ f hcc h00 hsp hm hf hv =>
            have hcr : CR U ρ M (U.enc te xs[i.toNat]) ((List.range (U.enc te xs[i.toNat]).length).map (f i.toNat)) :=
              ⟨by simp, by intro v hv'; simp only [List.mem_map, List.mem_range] at hv'; obtain ⟨j, hj, rfl⟩ := hv'; exact hf _ hi _ hj, fun j h1 h2 => by simpa using hv _ hi j h1⟩
            obtain ⟨v, hl, hv⟩ := ld_run (P := P) (w := w) (g := g) (o := i.toNat * U.sz te) hcr (fun j u hj => by
              rw [List.getElem?_map] at hj
              cases hr : (List.range (U.enc te xs[i.toNat]).length)[j]? with
              | none => simp [hr] at hj
              | some k =>
                rw [List.getElem?_eq_some_iff] at hr
                obtain ⟨hk, rfl⟩ := hr
                simp at hk
                simp [hk] at hj
                subst hj
                have := R.mr.sub _ _ _ (hm _ rfl _ hi j hk)
                simpa using this) hs
            exact .val (run _ v rfl hl) (Post.same R hv)
      · simp [RQ.run] at h
    · simp [RQ.run] at h
  · rename_i te xs i off
    obtain ⟨sv, hs, h⟩ := optQ_run h
    simp only [RQ.run, Option.some.injEq] at h
    subst h
    generalize a.eval p = pv at vp run
    cases vp with
    | rptr _ _ _ _ g oo f h0 h1 hm hf hv =>
      rw [rd_at h0 (by omega)] at hs
      have hcr : CR U ρ M (U.enc te xs[i.toNat]) ((List.range (U.enc te xs[i.toNat]).length).map f) :=
        ⟨by simp, by intro v hv'; simp only [List.mem_map, List.mem_range] at hv'; obtain ⟨j, hj, rfl⟩ := hv'; exact hf _ hj, fun j h1 h2 => by simpa using hv j h1⟩
      obtain ⟨v, hl, hv⟩ := ld_run (P := P) (w := w) (g := g) (o := oo) hcr (fun j u hj => by
        rw [List.getElem?_map] at hj
        cases hr : (List.range (U.enc te xs[i.toNat]).length)[j]? with
        | none => simp [hr] at hj
        | some k =>
          rw [List.getElem?_eq_some_iff] at hr
          obtain ⟨hk, rfl⟩ := hr
          simp at hk
          simp [hk] at hj
          subst hj
          exact R.mr.sub _ _ _ (hm j hk)) hs
      exact .now R (run _ v rfl hl) hv
  · simp [RQ.run] at h
end
end Go.Sx
