/- An evaluator of the model's code over symbolic values, and its soundness: part 5. No condition. -/
import Derived.Test.YtecniihieninjaaSyF
set_option linter.unusedVariables false
set_option linter.unusedSimpArgs false
namespace Go.Sx
open Go.RowKit
variable {T : Nat → Type} {U : Univ T} {P : Program}

section
variable {w0 : Frm} {M0 : Mem} {nt nid : Nat} {s : St T} {a : Act} {w : World} {ρ : Nat → Option Value} {M : Mem} {c : Step T} {o : Oper} {Tb : Calls_ T} {α : Type 1} {r : α}

theorem elemOf_run {t te : Nat} (h : elemOf P t = some te) : P.underlying t = some (.slice te) := by
  unfold elemOf at h
  split at h
  · rename_i e hu
    simp only [Option.some.injEq] at h
    subst h
    exact hu
  · cases h

theorem elemQ_run {t : Nat} {k : Nat → RQ T α} (h : (elemQ P U t k).run s = some r) : ∃ te i, P.underlying t = some (.slice te) ∧ P.info? te = some i ∧ i.size = U.sz te ∧ (k te).run s = some r := by
  unfold elemQ at h
  split at h
  · simp [RQ.run] at h
  · rename_i te hte
    split at h
    · simp [RQ.run] at h
    · rename_i n hn
      split at h
      · rename_i hb
        obtain ⟨i, hi, hs⟩ := szOf_run hn
        exact ⟨te, i, elemOf_run hte, hi, hs.trans (beq_eq hb), h⟩
      · simp [RQ.run] at h

theorem idx_run {st te : Nat} {i : TypeInfo} {x ix : Operand} {k : IntKind} {n : Int} {ad : Addr} {len cap : Nat} (ho : o.op = .indexAddr st x ix) (hu : P.underlying st = some (.slice te)) (hi : P.info? te = some i)
    (hx : a.eval x = .slice (some ad) len cap) (hn : a.eval ix = .int k n) (h0 : 0 ≤ n) (h1 : n < (len : Int)) :
    (execOp a.eval o).run P w = .ok (.value (.pointer (some (ad.add (n.toNat * i.size))))) w := by
  simp only [execOp, ho, hx, hn]
  exact run_v (by simp [Instr.indexAt, asIntOf, run_underlying hu, h0, h1, sizeOf, typeInfo, program, hi, Sem.run])

theorem addr_eta {ad : Addr} (h : ad.spot = none) : ad = ⟨ad.block, ad.off, none⟩ := by cases ad; simp_all

theorem rptr_of_row {t : Nat} {xs : List (T t)} {A : Option Addr} {cap : Nat} {v : Value} (h : VR U ρ M (.row t xs) v) (hv : v = .slice A xs.length cap) {n : Int} (h0 : 0 ≤ n) (h1 : n < (xs.length : Int)) :
    ∃ ad, A = some ad ∧ ad.spot = none ∧ VR U ρ M (.rptr t xs n 0) (.pointer (some ⟨ad.block, ad.off + n.toNat * U.sz t, none⟩)) := by
  cases h with
  | row _ _ A' c f hc h00 hs hm hf hv' =>
    cases hv
    cases A with
    | none => have := (h00 rfl).1; simp [this] at h1; omega
    | some ad =>
      have hi : n.toNat < xs.length := by omega
      refine ⟨ad, rfl, hs ad rfl (by intro e; simp [e] at hi), ?_⟩
      exact .rptr t xs n 0 ad.block (ad.off + n.toNat * U.sz t) (f n.toNat) h0 hi (fun j hj => hm ad rfl _ hi j hj) (fun j hj => hf _ hi j hj) (fun j hj => hv' _ hi j hj)

theorem row_slice {t : Nat} {xs : List (T t)} {v : Value} (h : VR U ρ M (.row t xs) v) : ∃ A cap, v = .slice A xs.length cap := by
  cases h; exact ⟨_, _, rfl⟩

theorem own_len {t : Nat} {xs : List (T t)} {v : Value} {base : Nat} {cl : List Value} {A : Option Addr} {n cp : Nat} (h : w.ownsRow base t (U.sz t) v xs.length cl) (hv : v = .slice A n cp) : n = xs.length ∧ (A = none ∧ xs.length = 0 ∧ cp = 0 ∨ ∃ g, A = some ⟨g, 0, none⟩) := by
  rcases h.2 with ⟨rfl, h0⟩ | ⟨g, cap, cur, rfl, _⟩
  · cases hv; exact ⟨h0.symm, .inl ⟨rfl, h0, rfl⟩⟩
  · cases hv; exact ⟨rfl, .inr ⟨g, rfl⟩⟩

theorem good_indexAddr (R : Rl U w0 M0 nt s nid a w ρ M) {st : Nat} {x ix : Operand} (ho : o.op = .indexAddr st x ix)
    (h : (opQ P U Tb nid (.indexAddr st x ix)).run s = some c) : Good P U w0 M0 s nid ρ M a w o c := by
  simp only [opQ] at h
  obtain ⟨sx, hx, h⟩ := rdO_run h
  obtain ⟨si, hi, h⟩ := rdO_run h
  have vx := hx.vr R
  have vi := hi.vr R
  split at h
  · rename_i k n
    obtain ⟨te, i, hu, hinf, hsz, h⟩ := elemQ_run h
    generalize hie : a.eval ix = iv at vi
    cases vi
    generalize hxe : a.eval x = xv at vx
    split at h
    · rename_i b
      simp only [RQ.run] at h
      cases vx with
      | own _ A m cp hρ =>
        split at h
        · rename_i te' xs hb
          split at h
          · rename_i hte
            have hte' := beq_eq hte
            subst hte'
            simp only [RQ.run, Option.some.injEq] at h
            subst h
            intro hc _ _
            obtain ⟨h0, h1⟩ : 0 ≤ n ∧ n < (xs.length : Int) := by simpa [Step.if_] using hc
            obtain ⟨v, hρ', cl, hown, hcr, _⟩ := R.mr.arr hb
            rw [hρ] at hρ'
            cases hρ'
            obtain ⟨rfl, hA⟩ := own_len hown rfl
            rcases hA with ⟨_, h00, _⟩ | ⟨g, rfl⟩
            · omega
            · refine .val (idx_run ho hu hinf hxe hie h0 h1) (Post.same R ?_)
              rw [add_at, Nat.zero_add, hsz]
              exact .eptr _ _ _ _ _ _ _ hρ
          · simp [RQ.run] at h
        · rename_i te' xs hb
          split at h
          · rename_i hte
            have hte' := beq_eq hte
            subst hte'
            simp only [RQ.run, Option.some.injEq] at h
            subst h
            intro hc _ _
            obtain ⟨h0, h1⟩ : 0 ≤ n ∧ n < (xs.length : Int) := by simpa [Step.if_] using hc
            obtain ⟨v, hρ', _, hrow⟩ := R.mr.frz hb
            rw [hρ] at hρ'
            cases hρ'
            obtain ⟨A', cap', e⟩ := row_slice hrow
            cases e
            obtain ⟨ad, rfl, hsp, hr⟩ := rptr_of_row hrow rfl h0 h1
            refine .val (idx_run ho hu hinf hxe hie h0 h1) (Post.same R ?_)
            rw [addr_eta hsp, add_at, hsz]
            exact hr
          · simp [RQ.run] at h
        · simp [RQ.run] at h
    · rename_i te' xs _ _
      split at h
      · rename_i hte
        have hte' := beq_eq hte
        subst hte'
        simp only [RQ.run, Option.some.injEq] at h
        subst h
        intro hc _ _
        obtain ⟨h0, h1⟩ : 0 ≤ n ∧ n < (xs.length : Int) := by simpa [Step.if_] using hc
        obtain ⟨A', cap', e⟩ := row_slice vx
        obtain ⟨ad, rfl, hsp, hr⟩ := rptr_of_row vx e h0 h1
        refine .val (idx_run ho hu hinf (hxe.trans e) hie h0 h1) (Post.same R ?_)
        rw [addr_eta hsp, add_at, hsz]
        exact hr
      · simp [RQ.run] at h
    · simp [RQ.run] at h
  · simp [RQ.run] at h

theorem good_index (R : Rl U w0 M0 nt s nid a w ρ M) {st : Nat} {x ix : Operand} (ho : o.op = .index st x ix)
    (h : (opQ P U Tb nid (.index st x ix)).run s = some c) : Good P U w0 M0 s nid ρ M a w o c := by
  simp only [opQ] at h
  obtain ⟨sx, hx, h⟩ := rdO_run h
  obtain ⟨si, hi, h⟩ := rdO_run h
  have vx := hx.vr R
  have vi := hi.vr R
  split at h
  · rename_i str k n hu _
    simp only [RQ.run, Option.some.injEq] at h
    subst h
    intro hc _ _
    obtain ⟨h0, h1⟩ : 0 ≤ n ∧ n < (str.size : Int) := by simpa [Step.if_] using hc
    generalize hie : a.eval ix = iv at vi
    cases vi
    generalize hxe : a.eval x = xv at vx
    cases vx
    have hlt : n.toNat < str.size := by omega
    refine .val (v := .int .u8 (bt str n)) ?_ (Post.same R (.v _))
    simp only [execOp, ho, hie, hxe]
    refine run_v ?_
    have hg : str[n.toNat]? = some (str[n.toNat]'hlt) := by simp [getElem?_pos, hlt]
    simp [Instr.index, asIntOf, run_underlying hu, h0, hg, bt, hlt]
  · simp [RQ.run] at h

theorem good_extract (R : Rl U w0 M0 nt s nid a w ρ M) {x : Operand} {i : Nat} (ho : o.op = .extract x i)
    (h : (opQ P U Tb nid (.extract x i)).run s = some c) : Good P U w0 M0 s nid ρ M a w o c := by
  simp only [opQ] at h
  obtain ⟨sx, hx, h⟩ := rdO_run h
  have vx := hx.vr R
  split at h
  · rename_i l
    obtain ⟨sv, hs, h⟩ := optQ_run h
    simp only [RQ.run, Option.some.injEq] at h
    subst h
    generalize hxe : a.eval x = xv at vx
    cases vx with
    | tup _ vs hl hv =>
      have hi : i < l.length := (List.getElem?_eq_some_iff.1 hs).1
      have e := (List.getElem?_eq_some_iff.1 hs).2
      refine .now R (v := vs[i]'(by omega)) ?_ (e ▸ hv i hi (by omega))
      simp only [execOp, ho, hxe]
      exact run_v (by simp [Instr.extract, show i < vs.length by omega])
  · simp [RQ.run] at h

theorem part_run {t off : Nat} {cs : List (SV T)} {vs : List Value} {sv : SV T} (hc : CR U ρ M cs vs) (h : ld P t cs off = some sv) : ∃ v, (part t vs.toArray off).run P w = .ok v w ∧ VR U ρ M sv v := by
  unfold ld at h
  split at h
  · cases h
  rename_i n hn
  obtain ⟨i, hi, hsz⟩ := szOf_run hn
  have hagg : ∀ b, aggOf P t = some b → (isAgg t).run P w = .ok b w := by
    intro b hb
    unfold aggOf at hb
    cases hu : P.underlying t with
    | none => simp [hu] at hb
    | some d =>
      unfold isAgg
      rw [Sem.run_bind, run_underlying hu w]
      rw [hu] at hb
      cases d <;> simp at hb <;> subst hb <;> rfl
  split at h
  · rename_i hag
    split at h
    · rename_i hle
      simp only [Option.some.injEq] at h
      subst h
      refine ⟨.agg ((vs.drop off).take n).toArray, ?_, ((hc.drop off).take n).agg⟩
      simp [part, hagg _ hag, sizeOf, typeInfo, program, hi, hsz, Sem.run]
    · cases h
  · rename_i hag
    obtain ⟨v, hv, _, hvr⟩ := hc.get h
    exact ⟨v, by simp [part, hagg _ hag, hv], hvr⟩
  · cases h

theorem good_field (R : Rl U w0 M0 nt s nid a w ρ M) {st f : Nat} {x : Operand} (ho : o.op = .field st x f)
    (h : (opQ P U Tb nid (.field st x f)).run s = some c) : Good P U w0 M0 s nid ρ M a w o c := by
  simp only [opQ] at h
  obtain ⟨sx, hx, h⟩ := rdO_run h
  have vx := hx.vr R
  split at h
  · rename_i l
    split at h
    · rename_i off ft hf
      obtain ⟨sv, hs, h⟩ := optQ_run h
      simp only [RQ.run, Option.some.injEq] at h
      subst h
      obtain ⟨fs, fl, hu, hfl, rfl, rfl⟩ := field_run hf
      generalize hxe : a.eval x = xv at vx
      cases vx with
      | agg _ vs hl h1 hv =>
        obtain ⟨v, hr, hvr⟩ := part_run (P := P) (w := w) ⟨hl, h1, hv⟩ hs
        refine .now R (v := v) ?_ hvr
        simp only [execOp, ho, hxe]
        exact run_v (by simp [Instr.field, run_underlying hu, hfl, asAgg, hr])
    · simp [RQ.run] at h
  · simp [RQ.run] at h
end
end Go.Sx
