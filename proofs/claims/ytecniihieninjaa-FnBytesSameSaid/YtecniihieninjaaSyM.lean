/- An evaluator of the model's code over symbolic values, and its soundness: part 11. No condition. -/
import Derived.Test.YtecniihieninjaaSyL
set_option linter.unusedVariables false
set_option linter.unusedSimpArgs false
namespace Go.Sx
open Go.RowKit
variable {T : Nat → Type} {U : Univ T} {P : Program}

section
variable {w0 : Frm} {M0 : Mem} {nt nid : Nat} {s : St T} {a : Act} {w : World} {ρ ρ' : Nat → Option Value} {M : Mem} {c : Step T} {o : Oper} {Tb : Calls_ T} {α : Type 1} {r : α}

def HiR (a : Act) (hi : Option Operand) (len cap h : Nat) : Prop := match hi with
  | none => h = len
  | some y => ∃ k n, a.eval y = .int k n ∧ 0 ≤ n ∧ n ≤ (cap : Int) ∧ h = n.toNat
def LoR (a : Act) (lo : Option Operand) (h l : Nat) : Prop := match lo with
  | none => l = 0
  | some y => ∃ k n, a.eval y = .int k n ∧ 0 ≤ n ∧ n ≤ (h : Int) ∧ l = n.toNat

theorem str_slice_run {t : Nat} {x : Operand} {lo hi : Option Operand} {st : ByteArray} {l h : Nat} (ho : o.op = .slice t x lo hi none) (hu : P.underlying t = some .string) (hx : a.eval x = .string st)
    (hh : HiR a hi st.size st.size h) (hl : LoR a lo h l) :
    (execOp a.eval o).run P w = .ok (.value (.string (st.extract l h))) w := by
  simp only [execOp, ho, hx]
  refine run_v ?_
  have hnot : ∀ n e, P.underlying t ≠ some (.array n e) := by simp [hu]
  cases hi with
  | none =>
    simp only [HiR] at hh
    subst hh
    cases lo with
    | none =>
      simp only [LoR] at hl
      subst hl
      simp [Instr.sliceAt, run_underlying hu, Instr.slice, Instr.sliceBounds]
    | some y =>
      obtain ⟨k, n, hy, h0, h1, rfl⟩ := hl
      simp [Instr.sliceAt, run_underlying hu, Instr.slice, Instr.sliceBounds, Instr.sliceBound, asIntOf, hy, h0, h1]
  | some z =>
    obtain ⟨k', n', hz, h0', h1', rfl⟩ := hh
    cases lo with
    | none =>
      simp only [LoR] at hl
      subst hl
      simp [Instr.sliceAt, run_underlying hu, Instr.slice, Instr.sliceBounds, Instr.sliceBound, asIntOf, hz, h0', h1']
    | some y =>
      obtain ⟨k, n, hy, h0, h1, rfl⟩ := hl
      have h1c : n ≤ ((n'.toNat : Nat) : Int) := h1
      simp [Instr.sliceAt, run_underlying hu, Instr.slice, Instr.sliceBounds, Instr.sliceBound, asIntOf, hz, h0', h1', hy, h0]
      try (intro hgt; exact absurd h1c (by omega))

theorem row_slice_run {t te : Nat} {i : TypeInfo} {x : Operand} {lo hi : Option Operand} {A : Option Addr} {len cap l h : Nat} (ho : o.op = .slice t x lo hi none) (hu : P.underlying t = some (.slice te)) (hi' : P.info? te = some i) (hx : a.eval x = .slice A len cap)
    (hh : HiR a hi len cap h) (hl : LoR a lo h l) :
    (execOp a.eval o).run P w = .ok (.value (.slice (if cap = l then A else A.map (·.add (l * i.size))) (h - l) (cap - l))) w := by
  simp only [execOp, ho, hx]
  refine run_v ?_
  cases hi with
  | none =>
    simp only [HiR] at hh
    subst hh
    cases lo with
    | none =>
      simp only [LoR] at hl
      subst hl
      simp [Instr.sliceAt, run_underlying hu, Instr.slice, Instr.sliceBounds, sizeOf, typeInfo, hi']
    | some y =>
      obtain ⟨k, n, hy, h0, h1, rfl⟩ := hl
      simp [Instr.sliceAt, run_underlying hu, Instr.slice, Instr.sliceBounds, Instr.sliceBound, asIntOf, hy, h0, h1, sizeOf, typeInfo, hi']
  | some z =>
    obtain ⟨k', n', hz, h0', h1', rfl⟩ := hh
    cases lo with
    | none =>
      simp only [LoR] at hl
      subst hl
      simp [Instr.sliceAt, run_underlying hu, Instr.slice, Instr.sliceBounds, Instr.sliceBound, asIntOf, hz, h0', h1', sizeOf, typeInfo, hi']
    | some y =>
      obtain ⟨k, n, hy, h0, h1, rfl⟩ := hl
      have h1c : n ≤ ((n'.toNat : Nat) : Int) := h1
      simp [Instr.sliceAt, run_underlying hu, Instr.slice, Instr.sliceBounds, Instr.sliceBound, asIntOf, hz, h0', h1', hy, h0, sizeOf, typeInfo, hi']
      try (intro hgt; exact absurd h1c (by omega))

/-- A part of a row is a row. -/
theorem VR.cut {t : Nat} {xs : List (T t)} {A : Option Addr} {len cap l h : Nat} (hv : VR U ρ M (.row t xs) (.slice A len cap)) (hlh : l ≤ h) (hh : h ≤ xs.length) :
    VR U ρ M (match isEm U t with | true => .sub t ((xs.take h).drop l) | false => .row t ((xs.take h).drop l)) (.slice (if cap = l then A else A.map (·.add (l * U.sz t))) (h - l) (cap - l)) := by
  generalize he : Value.slice A len cap = v at hv
  cases hv with
  | row _ _ A' c f hc h0 hs hm hf hv' =>
    cases he
    have hlen : ((xs.take h).drop l).length = h - l := by simp; omega
    rw [← hlen]
    have hget : ∀ i (hi : i < ((xs.take h).drop l).length), ((xs.take h).drop l)[i] = xs[l + i]'(by rw [hlen] at hi; omega) := by
      intro i hi
      simp
    have hli : ∀ i, i < ((xs.take h).drop l).length → l + i < xs.length := fun i hi => by rw [hlen] at hi; omega
    suffices key : ∀ x, (∀ (q1 : ((xs.take h).drop l).length ≤ cap - l) (q2 : (if cap = l then A else A.map (·.add (l * U.sz t))) = none → ((xs.take h).drop l) = [] ∧ cap - l = 0) (q3 : ∀ a, (if cap = l then A else A.map (·.add (l * U.sz t))) = some a → ((xs.take h).drop l) ≠ [] → a.spot = none)
        (q4 : ∀ a, (if cap = l then A else A.map (·.add (l * U.sz t))) = some a → ∀ i (h' : i < ((xs.take h).drop l).length) j, j < (U.enc t ((xs.take h).drop l)[i]).length → M a.block (a.off + i * U.sz t + j) = some (f (l + i) j))
        (q5 : ∀ i (h' : i < ((xs.take h).drop l).length) j, j < (U.enc t ((xs.take h).drop l)[i]).length → (f (l + i) j).oneCell' = true)
        (q6 : ∀ i (h' : i < ((xs.take h).drop l).length) j (hj : j < (U.enc t ((xs.take h).drop l)[i]).length), VR U ρ M (U.enc t ((xs.take h).drop l)[i])[j] (f (l + i) j)), VR U ρ M x (.slice (if cap = l then A else A.map (·.add (l * U.sz t))) ((xs.take h).drop l).length (cap - l))) → VR U ρ M x (.slice (if cap = l then A else A.map (·.add (l * U.sz t))) ((xs.take h).drop l).length (cap - l)) by
      cases hem : isEm U t with
      | true => exact key _ fun q1 q2 q3 q4 q5 q6 => .sub t _ _ _ (fun i j => f (l + i) j) q1 q2 q3 q4 q5 q6
      | false => exact key _ fun q1 q2 q3 q4 q5 q6 => .row t _ _ _ (fun i j => f (l + i) j) q1 q2 q3 q4 q5 q6 (fun B hB he => by
          unfold isEm at hem
          rw [he] at hem
          simp at hem)
    intro x hx
    refine hx (by rw [hlen]; omega) (fun e => ?_) (fun ad ha hne => ?_) (fun ad ha i hi j hj => ?_) (fun i hi j hj => ?_) (fun i hi j hj => ?_)
    · have : A = none := by
        split at e
        · exact e
        · simpa using e
      have h2 := (h0 this).1
      have h3 := (h0 this).2
      subst h2
      exact ⟨by simp, by omega⟩
    · split at ha
      · exact hs ad ha (by intro e; apply hne; simp [e])
      · cases A with
        | none => cases ha
        | some a0 =>
          simp only [Option.map_some, Option.some.injEq] at ha
          subst ha
          rw [addr_eta (hs a0 rfl (by intro e; apply hne; simp [e])), add_at]
    · rw [hget i hi] at hj
      split at ha
      · rename_i e
        have := hli i hi
        rw [hlen] at hi
        omega
      · cases A with
        | none => cases ha
        | some a0 =>
          simp only [Option.map_some, Option.some.injEq] at ha
          subst ha
          rw [addr_eta (hs a0 rfl (by intro e; simp [e] at hi)), add_at]
          have := hm a0 rfl _ (hli i hi) j hj
          rw [Nat.add_mul] at this
          simp only
          rw [show a0.off + l * U.sz t + i * U.sz t + j = a0.off + (l * U.sz t + i * U.sz t) + j by omega]
          exact this
    · rw [hget i hi] at hj
      exact hf _ (hli i hi) j hj
    · have hj' := hj
      rw [hget i hi] at hj'
      have := hv' _ (hli i hi) j hj'
      simpa only [hget i hi] using this

theorem OpdsR.opt {lo : Option Operand} {l : List (SV T)} (h : OpdsR lo.toList s l) : (lo = none ∧ l = []) ∨ ∃ y sy, lo = some y ∧ l = [sy] ∧ OpdR y s sy := by
  cases lo with
  | none => exact .inl ⟨rfl, by simpa [OpdsR] using h⟩
  | some y =>
    obtain ⟨sy, l', rfl, h1, h2⟩ := h
    simp only [OpdsR] at h2
    subst h2
    exact .inr ⟨y, sy, rfl, rfl, h1⟩

theorem VR.int_eq {k : IntKind} {n : Int} {v : Value} (h : VR U ρ M (.v (.int k n)) v) : v = .int k n := by cases h; rfl

theorem hiOf_run (R : Rl U w0 M0 nt s nid a w ρ M) {hi : Option Operand} {l : List (SV T)} {len cap h : Nat} {cs : List Bool} (hl : OpdsR hi.toList s l) (he : hiOf l len = some (cs, h)) (hc : cs.all id = true) (hcap : len ≤ cap) :
    h ≤ len ∧ HiR a hi len cap h := by
  rcases hl.opt with ⟨rfl, rfl⟩ | ⟨y, sy, rfl, rfl, hy⟩
  · simp only [hiOf, Option.some.injEq, Prod.mk.injEq] at he
    exact ⟨by omega, he.2.symm⟩
  · simp only [hiOf] at he
    split at he
    · rename_i e; cases e
    · rename_i k n e
      cases e
      simp only [Option.some.injEq, Prod.mk.injEq] at he
      obtain ⟨rfl, rfl⟩ := he
      obtain ⟨h0, h1⟩ : 0 ≤ n ∧ n ≤ (len : Int) := by simpa using hc
      exact ⟨by omega, k, n, (hy.vr R).int_eq, h0, by omega, rfl⟩
    · cases he

theorem loOf_run (R : Rl U w0 M0 nt s nid a w ρ M) {lo : Option Operand} {l : List (SV T)} {h lv : Nat} {cs : List Bool} (hl : OpdsR lo.toList s l) (he : loOf l h = some (cs, lv)) (hc : cs.all id = true) :
    lv ≤ h ∧ LoR a lo h lv := by
  rcases hl.opt with ⟨rfl, rfl⟩ | ⟨y, sy, rfl, rfl, hy⟩
  · simp only [loOf, Option.some.injEq, Prod.mk.injEq] at he
    exact ⟨by omega, he.2.symm⟩
  · simp only [loOf] at he
    split at he
    · rename_i e; cases e
    · rename_i k n e
      cases e
      simp only [Option.some.injEq, Prod.mk.injEq] at he
      obtain ⟨rfl, rfl⟩ := he
      obtain ⟨h0, h1⟩ : 0 ≤ n ∧ n ≤ (h : Int) := by simpa using hc
      exact ⟨by omega, k, n, (hy.vr R).int_eq, h0, h1, rfl⟩
    · cases he

theorem good_slice (hU : UOk U) (R : Rl U w0 M0 nt s nid a w ρ M) {t : Nat} {x : Operand} {lo hi mx : Option Operand} (ho : o.op = .slice t x lo hi mx)
    (h : (opQ P U Tb nid (.slice t x lo hi mx)).run s = some c) : Good P U w0 M0 s nid ρ M a w o c := by
  simp only [opQ] at h
  split at h
  · simp [RQ.run] at h
  · obtain ⟨sx, hx, h⟩ := rdO_run h
    obtain ⟨l, hl, h⟩ := rdOs_run h
    obtain ⟨hh, hhr, h⟩ := rdOs_run h
    have vx := hx.vr R
    split at h
    · generalize hxe : a.eval x = xv at vx
      cases vx
      split at h
      · rename_i hu
        obtain ⟨⟨c1, hv⟩, h1, h⟩ := optQ_run h
        obtain ⟨⟨c2, lv⟩, h2, h⟩ := optQ_run h
        simp only [RQ.run, Option.some.injEq] at h
        subst h
        intro hc _ _
        simp only [Step.if_, List.all_append, Bool.and_eq_true] at hc
        obtain ⟨_, k1⟩ := hiOf_run R hhr h1 hc.1 (Nat.le_refl _)
        obtain ⟨_, k2⟩ := loOf_run R hl h2 hc.2
        exact .val (str_slice_run ho hu hxe k1 k2) (Post.same R (.v _))
      · simp [RQ.run] at h
    · obtain ⟨te, i, hu, hi', hsz, h⟩ := elemQ_run h
      obtain ⟨x', ws, M', F, h⟩ := frzL_run hU R.mr h
      split at h
      · rename_i te' xs
        split at h
        · rename_i hte
          have hte' := beq_eq hte
          subst hte'
          obtain ⟨⟨c1, hv⟩, h1, h⟩ := optQ_run h
          obtain ⟨⟨c2, lv⟩, h2, h⟩ := optQ_run h
          simp only [RQ.run, Option.some.injEq] at h
          subst h
          intro hc _ _
          simp only [Step.if_, List.all_append, Bool.and_eq_true] at hc
          have hrow := F.vr 0 (by simp) (by simp) _ vx
          simp only [List.getElem_cons_zero] at hrow
          obtain ⟨A, cap, e⟩ := row_slice hrow
          have hcap : xs.length ≤ cap := by
            rw [e] at hrow
            cases hrow
            assumption
          obtain ⟨q1, k1⟩ := hiOf_run R hhr h1 hc.1 hcap
          obtain ⟨q2, k2⟩ := loOf_run R hl h2 hc.2
          rw [e] at hrow
          refine .val (row_slice_run ho hu hi' e k1 k2) ⟨ρ, M', .refl _, F.le, fun _ _ h => h, F.mr, ?_⟩
          rw [hsz]
          exact VR.cut hrow q2 q1
        · simp [RQ.run] at h
      · simp [RQ.run] at h

/-! ### Blocks named anew -/
theorem VR.nr1 (hU : UOk U) {x : SV T} {v : Value} (h : VR U ρ M x v) (hn : nr1 x = true) : VR U ρ' M x v := by
  induction h with
  | any x => exact .any x
  | v x => exact .v x
  | row t xs A c f hc h0 hs hm hf hv he ih => exact .row t xs A c f hc h0 hs hm hf (fun i hi j hj => ih i hi j hj (List.all_eq_true.1 (hU.nr t xs[i]) _ (List.getElem_mem hj))) he
  | sub t xs A c f hc h0 hs hm hf hv ih => exact .sub t xs A c f hc h0 hs hm hf (fun i hi j hj => ih i hi j hj (List.all_eq_true.1 (hU.nr t xs[i]) _ (List.getElem_mem hj)))
  | own b a n c h => cases hn
  | ptr b g off h => cases hn
  | eptr b g n c t i off h => cases hn
  | rptr t xs i off g o f h0 h1 hm hf hv ih => exact .rptr t xs i off g o f h0 h1 hm hf (fun j hj => ih j hj (List.all_eq_true.1 (hU.nr t xs[i.toNat]) _ (List.getElem_mem hj)))
  | hnd0 t => exact .hnd0 t
  | hnd t j a n c h => exact .hnd t j a n c h
  | hptr j g n c t i off h => exact .hptr j g n c t i off h
  | agg l vs hl hf h ih => cases hn
  | tup l vs hl h ih => cases hn

theorem VR.nr (hU : UOk U) {x : SV T} {v : Value} (h : VR U ρ M x v) (hn : nr x = true) : VR U ρ' M x v := by
  cases x with
  | agg l =>
    cases h with
    | agg _ vs hl hf hv => exact .agg l vs hl hf fun i h1 h2 => (hv i h1 h2).nr1 hU (List.all_eq_true.1 hn _ (List.getElem_mem h1))
  | _ => exact h.nr1 hU hn

def Ren (σ : Nat → Option Nat) (ρ ρ' : Nat → Option Value) : Prop := ∀ b c v, σ b = some c → ρ b = some v → ρ' c = some v

theorem VR.rn1 (hU : UOk U) {σ : Nat → Option Nat} (hσ : Ren σ ρ ρ') {x : SV T} {v : Value} (h : VR U ρ M x v) : VR U ρ' M (rn1 σ x) v := by
  cases x with
  | own b =>
    simp only [Sx.rn1]
    split
    · rename_i d hd
      cases h with
      | own _ A n cp hρ => exact .own _ _ _ _ (hσ _ _ _ hd hρ)
    · exact .any _
  | ptr b o =>
    simp only [Sx.rn1]
    split
    · rename_i d hd
      cases h with
      | ptr _ g _ hρ => exact .ptr _ _ _ (hσ _ _ _ hd hρ)
    · exact .any _
  | eptr b t i o =>
    simp only [Sx.rn1]
    split
    · rename_i d hd
      cases h with
      | eptr _ g n cp _ _ _ hρ => exact .eptr _ _ _ _ _ _ _ (hσ _ _ _ hd hρ)
    · exact .any _
  | agg l => exact .any _
  | tup l => exact .any _
  | any => exact .any _
  | v y => exact h.nr1 hU rfl
  | row t xs => exact h.nr1 hU rfl
  | sub t xs => exact h.nr1 hU rfl
  | rptr t xs i o => exact h.nr1 hU rfl
  | hnd t j => exact h.nr1 hU rfl
  | hptr j t i o => exact h.nr1 hU rfl

theorem VR.rn2 (hU : UOk U) {σ : Nat → Option Nat} (hσ : Ren σ ρ ρ') {x : SV T} {v : Value} (h : VR U ρ M x v) : VR U ρ' M (rn2 σ x) v := by
  cases x with
  | agg l =>
    simp only [Sx.rn2]
    cases h with
    | agg _ vs hl hf hv => exact .agg _ vs (by simpa using hl) hf fun i h1 h2 => (by simp only [List.getElem_map]; exact (hv i (by simpa using h1) h2).rn1 hU hσ)
  | _ => exact h.rn1 hU hσ

theorem VR.rn (hU : UOk U) {σ : Nat → Option Nat} (hσ : Ren σ ρ ρ') {x : SV T} {v : Value} (h : VR U ρ M x v) : VR U ρ' M (rn σ x) v := by
  cases x with
  | tup l =>
    simp only [Sx.rn]
    cases h with
    | tup _ vs hl hv => exact .tup _ vs (by simpa using hl) fun i h1 h2 => (by simp only [List.getElem_map]; exact (hv i (by simpa using h1) h2).rn2 hU hσ)
  | _ => exact h.rn2 hU hσ
end
end Go.Sx
