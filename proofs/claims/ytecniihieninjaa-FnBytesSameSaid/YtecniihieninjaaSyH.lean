/- An evaluator of the model's code over symbolic values, and its soundness: part 6. No condition. -/
import Derived.Test.YtecniihieninjaaSyG
set_option linter.unusedVariables false
set_option linter.unusedSimpArgs false
namespace Go.Sx
open Go.RowKit
variable {T : Nat → Type} {U : Univ T} {P : Program}

section
variable {w0 : Frm} {M0 : Mem} {nt nid : Nat} {s : St T} {a : Act} {w : World} {ρ : Nat → Option Value} {M : Mem} {c : Step T} {o : Oper} {Tb : Calls_ T} {α : Type 1} {r : α}

def OpdsR : List Operand → St T → List (SV T) → Prop
  | [], _, l => l = []
  | x :: r, s, l => ∃ y l', l = y :: l' ∧ OpdR x s y ∧ OpdsR r s l'

theorem rdOs_run : ∀ {xs : List Operand} {k : List (SV T) → RQ T α}, (rdOs xs k).run s = some r → ∃ l, OpdsR xs s l ∧ (k l).run s = some r
  | [], k, h => ⟨[], rfl, h⟩
  | x :: xs, k, h => by
    obtain ⟨y, hy, h⟩ := rdO_run h
    obtain ⟨l, hl, h⟩ := rdOs_run h
    exact ⟨y :: l, ⟨y, l, rfl, hy, hl⟩, h⟩

theorem OpdsR.vr : ∀ {xs : List Operand} {l : List (SV T)}, OpdsR xs s l → Rl U w0 M0 nt s nid a w ρ M → l.length = xs.length ∧ ∀ i (h1 : i < l.length) (h2 : i < xs.length), VR U ρ M l[i] (a.eval xs[i])
  | [], l, h, R => by simp only [OpdsR] at h; subst h; exact ⟨rfl, fun i h1 => by simp at h1⟩
  | x :: xs, l, h, R => by
    obtain ⟨y, l', rfl, hy, hl⟩ := h
    obtain ⟨e, hv⟩ := hl.vr R
    refine ⟨by simp [e], fun i h1 h2 => ?_⟩
    cases i with
    | zero => exact hy.vr R
    | succ i => exact hv i (by simp at h1; omega) (by simp at h2; omega)

/-- A slice's elements: what the slice's value is, and what its cells hold. -/
structure RowR (U : Univ T) (ρ : Nat → Option Value) (M : Mem) (w : World) (t : Nat) (ys : List (T t)) (v : Value) : Prop where
  sl : ∃ A cap, v = .slice A ys.length cap ∧ (A = none → ys = [] ∧ cap = 0)
  cl : ∃ cl : List Value, CR U ρ M (ys.flatMap (U.enc t)) cl ∧ ∀ A n cap, v = .slice (some A) n cap → ∀ j u, cl[j]? = some u → w.cell? (A.add j) = some u

theorem RowR.of_parts (hU : UOk U) (hsub : ∀ b o v, M b o = some v → w.cell? ⟨b, o, none⟩ = some v) {t : Nat} {ys : List (T t)} {A : Option Addr} {c : Nat} {f : Nat → Nat → Value}
    (h0 : A = none → ys = [] ∧ c = 0) (hs : ∀ a, A = some a → ys ≠ [] → a.spot = none)
    (hm : ∀ a, A = some a → ∀ i (h : i < ys.length) j, j < (U.enc t ys[i]).length → M a.block (a.off + i * U.sz t + j) = some (f i j))
    (hf : ∀ i (h : i < ys.length) j, j < (U.enc t ys[i]).length → (f i j).oneCell' = true)
    (hv : ∀ i (h : i < ys.length) j (hj : j < (U.enc t ys[i]).length), VR U ρ M (U.enc t ys[i])[j] (f i j)) : RowR U ρ M w t ys (.slice A ys.length c) := by
  refine ⟨⟨A, c, rfl, h0⟩, ?_⟩
  let cl : List Value := (List.range (ys.length * U.sz t)).map fun j => f (j / U.sz t) (j % U.sz t)
  have hlen : (ys.flatMap (U.enc t)).length = ys.length * U.sz t := flat_len hU t ys
  have hsz : ∀ i (h : i < ys.length * U.sz t), 0 < U.sz t := fun i h => by
    rcases Nat.eq_zero_or_pos (U.sz t) with e | e
    · rw [e] at h; simp at h
    · exact e
  have hdiv : ∀ i, i < ys.length * U.sz t → i / U.sz t < ys.length := fun i h => Nat.div_lt_of_lt_mul (by rwa [Nat.mul_comm])
  have hmod : ∀ i (h : i < ys.length * U.sz t), i % U.sz t < (U.enc t (ys[i / U.sz t]'(hdiv i h))).length := fun i h => by rw [hU.len]; exact Nat.mod_lt _ (hsz i h)
  have hget : ∀ i (h : i < ys.length * U.sz t), (ys.flatMap (U.enc t))[i]? = (U.enc t (ys[i / U.sz t]'(hdiv i h)))[i % U.sz t]? := by
    intro i h
    have e1 : (ys.flatMap (U.enc t))[i]? = ((ys.flatMap (U.enc t)).drop (i / U.sz t * U.sz t))[i % U.sz t]? := by
      rw [List.getElem?_drop]
      congr 1
      rw [Nat.mul_comm]
      exact (Nat.div_add_mod i (U.sz t)).symm
    rw [e1, flat_drop hU, List.drop_eq_getElem_cons (hdiv i h), List.flatMap_cons, List.getElem?_append_left (hmod i h)]
  refine ⟨cl, ⟨by simp [cl, hlen], ?_, ?_⟩, ?_⟩
  · intro v hv'
    simp only [cl, List.mem_map, List.mem_range] at hv'
    obtain ⟨j, hj, rfl⟩ := hv'
    exact hf _ (hdiv j hj) _ (hmod j hj)
  · intro i h1 h2
    rw [hlen] at h1
    have e := hget i h1
    rw [List.getElem?_eq_getElem (by omega), List.getElem?_eq_getElem (hmod i h1)] at e
    simp only [Option.some.injEq] at e
    rw [e]
    simpa [cl] using hv _ (hdiv i h1) _ (hmod i h1)
  · intro A' n cap e j u hj
    cases e
    simp only [cl, List.getElem?_map] at hj
    cases hr : (List.range (ys.length * U.sz t))[j]? with
    | none => simp [hr] at hj
    | some k =>
      rw [List.getElem?_eq_some_iff] at hr
      obtain ⟨hk, rfl⟩ := hr
      simp at hk
      simp [hk] at hj
      subst hj
      rw [addr_eta (hs _ rfl (by have := hdiv j hk; intro e; simp [e] at this)), add_at]
      have := hsub _ _ _ (hm _ rfl _ (hdiv j hk) _ (hmod j hk))
      rw [Nat.add_assoc, Nat.mul_comm, Nat.div_add_mod] at this
      exact this

theorem RowR.of_row (hU : UOk U) (hsub : ∀ b o v, M b o = some v → w.cell? ⟨b, o, none⟩ = some v) {t : Nat} {ys : List (T t)} {v : Value} (h : VR U ρ M (.row t ys) v) : RowR U ρ M w t ys v := by
  cases h with
  | row _ _ A c f hc h0 hs hm hf hv => exact .of_parts hU hsub h0 hs hm hf hv
theorem RowR.of_sub (hU : UOk U) (hsub : ∀ b o v, M b o = some v → w.cell? ⟨b, o, none⟩ = some v) {t : Nat} {ys : List (T t)} {v : Value} (h : VR U ρ M (.sub t ys) v) : RowR U ρ M w t ys v := by
  cases h with
  | sub _ _ A c f hc h0 hs hm hf hv => exact .of_parts hU hsub h0 hs hm hf hv

theorem RowR.of_own (hU : UOk U) {t : Nat} {ys : List (T t)} {v : Value} {base : Nat} {cl : List Value} (h : w.ownsRow base t (U.sz t) v ys.length cl) (hc : CR U ρ M (ys.flatMap (U.enc t)) cl) : RowR U ρ M w t ys v := by
  refine ⟨?_, cl, hc, ?_⟩
  · rcases h.2 with ⟨rfl, h0⟩ | ⟨g, cap, cur, rfl, _⟩
    · exact ⟨none, 0, by rw [h0], fun _ => ⟨List.eq_nil_of_length_eq_zero h0, rfl⟩⟩
    · exact ⟨_, _, rfl, fun e => by cases e⟩
  · intro A n cap e j u hj
    subst e
    obtain ⟨_, hA⟩ := own_len h rfl
    rcases hA with ⟨e, _⟩ | ⟨g, e⟩
    · cases e
    · simp only [Option.some.injEq] at e
      subst e
      exact h.cells (g := g) rfl j u hj

theorem rowQ_run (hU : UOk U) {t : Nat} {x : SV T} {k : List (T t) → RQ T α} {v : Value} (R : Rl U w0 M0 nt s nid a w ρ M) (hx : VR U ρ M x v) (h : (rowQ t x k).run s = some r) :
    ∃ ys, RowR U ρ M w t ys v ∧ (k ys).run s = some r := by
  unfold rowQ at h
  split at h
  · rename_i t' xs
    split at h
    · rename_i ht
      subst ht
      exact ⟨xs, .of_row hU R.mr.sub hx, h⟩
    · simp [RQ.run] at h
  · rename_i b
    simp only [RQ.run] at h
    cases hx with
    | own _ A n cp hρ =>
      split at h
      · rename_i t' xs hb
        split at h
        · rename_i ht
          subst ht
          obtain ⟨v', hρ', cl, hown, hcr, _⟩ := R.mr.arr hb
          rw [hρ] at hρ'
          cases hρ'
          exact ⟨xs, .of_own hU hown hcr, h⟩
        · simp [RQ.run] at h
      · rename_i t' xs hb
        split at h
        · rename_i ht
          subst ht
          obtain ⟨v', hρ', _, hrow⟩ := R.mr.frz hb
          rw [hρ] at hρ'
          cases hρ'
          exact ⟨xs, .of_row hU R.mr.sub hrow, h⟩
        · simp [RQ.run] at h
      · simp [RQ.run] at h
  · rename_i t' xs
    split at h
    · rename_i ht
      subst ht
      exact ⟨xs, .of_sub hU R.mr.sub hx, h⟩
    · simp [RQ.run] at h
  · cases hx
    exact ⟨[], ⟨⟨none, 0, rfl, fun _ => ⟨rfl, rfl⟩⟩, [], .nil, fun A n cap e => by cases e⟩, h⟩
  · simp [RQ.run] at h

theorem good_convert (hU : UOk U) (R : Rl U w0 M0 nt s nid a w ρ M) {t t' : Nat} {x : Operand} (ho : o.op = .convert t t' x)
    (h : (opQ P U Tb nid (.convert t t' x)).run s = some c) : Good P U w0 M0 s nid ρ M a w o c := by
  simp only [opQ] at h
  obtain ⟨sx, hx, h⟩ := rdO_run h
  have vx := hx.vr R
  split at h
  · generalize hxe : a.eval x = xv at vx
    cases vx
    obtain ⟨v, hv, rfl⟩ := pv_run h
    exact .now R (v := v) (by simp only [execOp, ho, hxe]; exact run_v (hv w)) (.v _)
  · generalize hxe : a.eval x = xv at vx
    cases vx
    obtain ⟨v, hv, rfl⟩ := pv_run h
    exact .now R (v := v) (by simp only [execOp, ho, hxe]; exact run_v (hv w)) (.v _)
  · split at h
    · rename_i te hd hs
      split at h
      · rename_i f he hf
        obtain ⟨ys, ⟨⟨A, cap, hv, h0⟩, cl, hcl, hcell⟩, h⟩ := rowQ_run hU R vx h
        simp only [RQ.run, Option.some.injEq] at h
        subst h
        have run : ∀ v, (Go.convert t t' (a.eval x)).run P w = .ok v w → (execOp a.eval o).run P w = .ok (.value v) w := by
          intro v hv
          simp only [execOp, ho]
          exact run_v hv
        have e : ys.flatMap (U.enc te) = ys.map fun y => (.v (.int .u8 (f y)) : SV T) := by
          rw [List.map_eq_flatMap]
          congr 1
          funext y
          exact hU.u8 te f hf y
        rw [e] at hcl
        have hcs : cl = (ys.map f).map (Value.int .u8) := by
          refine List.ext_getElem (by simpa using hcl.len.symm) fun i h1 h2 => ?_
          have := hcl.at_ i (by rw [hcl.len]; exact h1) h1
          simp only [List.getElem_map] at this ⊢
          generalize cl[i] = u at this
          cases this
          rfl
        refine .now R (run _ ?_) (.v _)
        rw [hv]
        cases A with
        | none =>
          obtain ⟨rfl, rfl⟩ := h0 rfl
          exact run_convert_bytes_nil w t te hs he _ _ _ hd
        | some A =>
          have hl : (loadCells A ys.length).run P w = .ok ((ys.map f).map (Value.int .u8)).toArray w := by
            have := run_loadCells_list (P := P) w A cl (fun j v hj => hcell A _ _ hv j v hj)
            rw [hcs] at this
            simpa using this
          rw [run_convert_bytes_string w t t' te _ _ cap hs he hd, run_bytesToString w _ _ cap _ hl, foldl_push_bytes]
          simp [strOfNums, ByteArray.empty, ByteArray.emptyWithCapacity]
          rfl
      · simp [RQ.run] at h
    · simp [RQ.run] at h

theorem call_run {cl : Call} {d : Builtin} {v : Value} {w' : World} (ho : o.op = .call cl) (hc : cl.callee = .builtin d)
    (hd : ∀ cs, (Go.builtin d cl.argTypes o.type cs (cl.args.map a.eval)).run P w = .ok (.value v) w') : (execOp a.eval o).run P w = .ok (.value v) w' := by
  simp [execOp, ho, resolve, hc, invoke, hd]

theorem args1 {xs : Array Operand} {y : SV T} (h : OpdsR xs.toList s [y]) (R : Rl U w0 M0 nt s nid a w ρ M) : ∃ x, xs.map a.eval = #[a.eval x] ∧ VR U ρ M y (a.eval x) := by
  obtain ⟨e, hv⟩ := h.vr R
  cases xs with
  | mk l =>
    match l, e with
    | [x], _ => exact ⟨x, by simp, hv 0 (by simp) (by simp)⟩

theorem args2 {xs : Array Operand} {y z : SV T} (h : OpdsR xs.toList s [y, z]) (R : Rl U w0 M0 nt s nid a w ρ M) : ∃ x x', xs.map a.eval = #[a.eval x, a.eval x'] ∧ VR U ρ M y (a.eval x) ∧ VR U ρ M z (a.eval x') := by
  obtain ⟨e, hv⟩ := h.vr R
  cases xs with
  | mk l =>
    match l, e with
    | [x, x'], _ => exact ⟨x, x', by simp, hv 0 (by simp) (by simp), hv 1 (by simp) (by simp)⟩

theorem types_at {ts : Array Nat} {d : TypeDesc} (h : (ts[0]?).bind P.underlying = some d) : ∃ t, ts[0]? = some t ∧ P.underlying t = some d := by
  cases ht : ts[0]? with
  | none => simp [ht] at h
  | some t => exact ⟨t, rfl, by simpa [ht] using h⟩

theorem good_len (R : Rl U w0 M0 nt s nid a w ρ M) {cl : Call} (ho : o.op = .call cl) (hcl : cl.callee = .builtin .len)
    (h : (opQ P U Tb nid (.call cl)).run s = some c) : Good P U w0 M0 s nid ρ M a w o c := by
  simp only [opQ, hcl] at h
  obtain ⟨l, hl, h⟩ := rdOs_run h
  have run : ∀ t d v (n : Int), cl.argTypes[0]? = some t → P.underlying t = some d → cl.args.map a.eval = #[v] → (match d, v with | .string, .string s => n = s.size | .slice _, .slice _ m _ => n = m | _, _ => False) →
      (execOp a.eval o).run P w = .ok (.value (.int .i64 n)) w := by
    intro t d v n ht hu ha hm
    refine call_run ho hcl fun cs => ?_
    simp only [Go.builtin, ha]
    refine run_v ?_
    have ht' : cl.argTypes[0]? = some t := ht
    cases d <;> cases v <;> simp only at hm <;> subst hm <;> simp [Builtin.len_, ht', run_underlying hu, goInt]
  split at h
  · obtain ⟨x, hx, vx⟩ := args1 hl R
    split at h
    · rename_i hu
      obtain ⟨t, ht, hu⟩ := types_at hu
      simp only [RQ.run, Option.some.injEq] at h
      subst h
      generalize a.eval x = xv at vx hx
      cases vx
      exact .now R (run _ _ _ _ ht hu hx rfl) (.v _)
    · simp [RQ.run] at h
  · obtain ⟨x, hx, vx⟩ := args1 hl R
    split at h
    · rename_i hu
      obtain ⟨t, ht, hu⟩ := types_at hu
      simp only [RQ.run, Option.some.injEq] at h
      subst h
      obtain ⟨A, cap, e⟩ := row_slice vx
      rw [e] at hx
      exact .now R (run _ _ _ _ ht hu hx rfl) (.v _)
    · simp [RQ.run] at h
  · obtain ⟨x, hx, vx⟩ := args1 hl R
    split at h
    · rename_i hu
      obtain ⟨t, ht, hu⟩ := types_at hu
      simp only [RQ.run] at h
      generalize a.eval x = xv at vx hx
      cases vx with
      | own _ A n cp hρ =>
        split at h
        · rename_i te xs hb
          simp only [RQ.run, Option.some.injEq] at h
          subst h
          obtain ⟨v', hρ', cl', hown, hcr, _⟩ := R.mr.arr hb
          rw [hρ] at hρ'
          cases hρ'
          obtain ⟨rfl, _⟩ := own_len hown rfl
          exact .now R (run _ _ _ _ ht hu hx rfl) (.v _)
        · rename_i te xs hb
          simp only [RQ.run, Option.some.injEq] at h
          subst h
          obtain ⟨v', hρ', _, hrow⟩ := R.mr.frz hb
          rw [hρ] at hρ'
          cases hρ'
          obtain ⟨A', cap', e⟩ := row_slice hrow
          cases e
          exact .now R (run _ _ _ _ ht hu hx rfl) (.v _)
        · simp [RQ.run] at h
    · simp [RQ.run] at h
  · obtain ⟨x, hx, vx⟩ := args1 hl R
    split at h
    · rename_i hu
      obtain ⟨t, ht, hu⟩ := types_at hu
      simp only [RQ.run, Option.some.injEq] at h
      subst h
      generalize a.eval x = xv at vx hx
      cases vx
      exact .now R (run _ _ _ _ ht hu hx rfl) (.v _)
    · simp [RQ.run] at h
  · simp [RQ.run] at h

theorem good_min (R : Rl U w0 M0 nt s nid a w ρ M) {cl : Call} (ho : o.op = .call cl) (hcl : cl.callee = .builtin .min)
    (h : (opQ P U Tb nid (.call cl)).run s = some c) : Good P U w0 M0 s nid ρ M a w o c := by
  simp only [opQ, hcl] at h
  obtain ⟨l, hl, h⟩ := rdOs_run h
  split at h
  · obtain ⟨x, y, hx, vx, vy⟩ := args2 hl R
    simp only [RQ.run, Option.some.injEq] at h
    subst h
    generalize a.eval x = xv at vx hx
    generalize a.eval y = yv at vy hx
    cases vx
    cases vy
    refine .now R (call_run ho hcl fun cs => ?_) (.v _)
    simp only [Go.builtin, hx]
    refine run_v ?_
    simp [Builtin.min_, Builtin.min2]
  · simp [RQ.run] at h
theorem good_max (R : Rl U w0 M0 nt s nid a w ρ M) {cl : Call} (ho : o.op = .call cl) (hcl : cl.callee = .builtin .max)
    (h : (opQ P U Tb nid (.call cl)).run s = some c) : Good P U w0 M0 s nid ρ M a w o c := by
  simp only [opQ, hcl] at h
  obtain ⟨l, hl, h⟩ := rdOs_run h
  split at h
  · obtain ⟨x, y, hx, vx, vy⟩ := args2 hl R
    simp only [RQ.run, Option.some.injEq] at h
    subst h
    generalize a.eval x = xv at vx hx
    generalize a.eval y = yv at vy hx
    cases vx
    cases vy
    refine .now R (call_run ho hcl fun cs => ?_) (.v _)
    simp only [Go.builtin, hx]
    refine run_v ?_
    simp [Builtin.max_, Builtin.max2]
  · simp [RQ.run] at h
end
end Go.Sx
