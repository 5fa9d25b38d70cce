/- An evaluator of the model's code over symbolic values, and its soundness: part 20. No condition. -/
import Derived.Test.YtecniihieninjaaSyHt
set_option linter.unusedVariables false
set_option linter.unusedSimpArgs false
namespace Go.Sx
open Go.RowKit
variable {T : Nat → Type} {U : Univ T} {P : Program}

section
variable {w0 : Frm} {M0 : Mem} {nt nid : Nat} {s : St T} {a : Act} {w : World} {ρ ρ' : Nat → Option Value} {M : Mem} {c : Step T} {o : Oper} {Tb : Calls_ T} {α : Type 1} {r : α}

theorem look_put (d : Nat) (x : SV T) (l : List (Nat × SV T)) (t : Nat) : look .any t ((d, x) :: l) = if d = t then x else look .any t l := by
  simp only [look]
  by_cases h : d = t
  · subst h; simp
  · have : Nat.beq d t = false := by
      cases hb : Nat.beq d t
      · rfl
      · exact absurd (Nat.eq_of_beq_eq_true hb) h
    rw [this, if_neg h]

theorem get_put (s : St T) (d : Option Nat) (x : SV T) (t : Nat) : (s.put d x).get t = if d = some t then x else s.get t := by
  cases d with
  | none => simp [St.put]
  | some d => simp only [St.put, St.get, look_put, Option.some.injEq]

theorem tmps_put {d : Option Nat} (hd : dstOk a.tmps.size d = true) (v : Value) (t : Nat) : (a.put d v).tmps.getD t undef = if d = some t then v else a.tmps.getD t undef := by
  cases d with
  | none => simp [Act.put]
  | some d =>
    have hlt : d < a.tmps.size := by simpa [dstOk, Nat.blt_eq] using hd
    simp only [Act.put, Option.some.injEq, Array.getD_eq_getD_getElem?, Array.getElem?_setIfInBounds]
    by_cases h : d = t
    · subst h; simp [hlt]
    · simp [h]

theorem put_rest (d : Option Nat) (v : Value) : (a.put d v).tmps.size = a.tmps.size ∧ (a.put d v).defers = a.defers := by
  cases d <;> simp [Act.put]

/-- A state's relation to the machine's, but for the names that are still free. -/
structure Rc (U : Univ T) (w0 : Frm) (M0 : Mem) (nt : Nat) (s : St T) (a : Act) (w : World) (ρ : Nat → Option Value) (M : Mem) : Prop where
  mr : MR U w0 (M0.wh M) s.blk ρ M w
  tm : ∀ t, VR U ρ M (s.get t) (a.tmps.getD t undef)
  sz : a.tmps.size = nt
  df : a.defers = []
  hx : HX U w0 M0 s.blk ρ M w

theorem Rc.mr0 (R : Rc U w0 M0 nt s a w ρ M) (hm : U.hm = false) : MR U w0 M0 s.blk ρ M w := by
  have h := R.mr
  have e : M0.wh M = M0 := by unfold Mem.wh; rw [R.hx.off hm]
  rwa [e] at h
theorem Rc.hx0 (R : Rc U w0 M0 nt s a w ρ M) (hm : U.hm = false) {env : Nat → Blk T} : HX U w0 M0 env ρ' M w := ⟨R.hx.le, R.hx.off, fun h => by rw [hm] at h; cases h⟩
theorem Rh.rc (R : Rh U w0 M0 nt s nid a w ρ M) : Rc U w0 M0 nt s a w ρ M := ⟨R.mr, R.tm, R.sz, R.df, R.hx⟩
theorem Rc.rl (R : Rc U w0 M0 nt s a w ρ M) (h : ∀ b, nid ≤ b → b < nid + 16 → ρ b = none) : Rh U w0 M0 nt s nid a w ρ M := ⟨⟨R.mr, R.tm, R.sz, R.df, fun b h1 h2 => h b h1 (by omega), R.hx⟩, fun b h1 h2 => h b (by omega) h2⟩

def SEq (s s' : St T) : Prop := (∀ t, s.get t = s'.get t) ∧ ∀ b, s.blk b = s'.blk b
theorem SEq.refl (s : St T) : SEq s s := ⟨fun _ => rfl, fun _ => rfl⟩
theorem SEq.symm {s s' : St T} (h : SEq s s') : SEq s' s := ⟨fun t => (h.1 t).symm, fun b => (h.2 b).symm⟩
theorem SEq.trans {s s' s'' : St T} (h : SEq s s') (k : SEq s' s'') : SEq s s'' := ⟨fun t => (h.1 t).trans (k.1 t), fun b => (h.2 b).trans (k.2 b)⟩

theorem Rc.congr {s' : St T} (R : Rc U w0 M0 nt s a w ρ M) (h : SEq s s') : Rc U w0 M0 nt s' a w ρ M :=
  ⟨mr_congr R.mr fun b => (h.2 b).symm, fun t => h.1 t ▸ R.tm t, R.sz, R.df, (funext fun b => h.2 b : s.blk = s'.blk) ▸ R.hx⟩

theorem PostH.rc (R : Rh U w0 M0 nt s nid a w ρ M) {x : SV T} {ws : List (Nat × Blk T)} {v : Value} {w' : World} {d : Option Nat} (hd : dstOk nt d = true) (h : PostH U w0 M0 s nid ρ M x ws v w') :
    ∃ ρ' M', (∀ b, ¬ (nid ≤ b ∧ b < nid + 16) → ρ b = none → ρ' b = none) ∧ Rc U w0 M0 nt ((s.puts ws).put d x) (a.put d v) w' ρ' M' := by
  obtain ⟨ρ', M', h1, h2, h3, h4, h6, h5⟩ := h
  have hb : ((s.puts ws).put d x).blk = (s.puts ws).blk := by cases d <;> rfl
  refine ⟨ρ', M', h3, ⟨?_, fun t => ?_, (put_rest d v).1.trans R.sz, (put_rest d v).2.trans R.df, by rw [hb]; exact h6⟩⟩
  · rw [hb]
    exact h4
  · rw [get_put, tmps_put (R.sz ▸ hd)]
    split
    · exact h5
    · exact (R.tm t).mono h1 h2

theorem Rc.skip (R : Rc U w0 M0 nt s a w ρ M) {d : Option Nat} (hd : dstOk nt d = true) (v : Value) : Rc U w0 M0 nt ((s.puts []).put d (.v v)) (a.put d v) w ρ M := by
  have hb : ((s.puts []).put d (SV.v v)).blk = s.blk := by cases d <;> rfl
  refine ⟨?_, fun t => ?_, (put_rest d v).1.trans R.sz, (put_rest d v).2.trans R.df, by rw [hb]; exact R.hx⟩
  · rw [hb]
    exact R.mr
  · rw [get_put, tmps_put (R.sz ▸ hd)]
    split
    · exact .v _
    · exact R.tm t

theorem allC_some {R : Type} {l : List Bool} {x : Option R} {r : R} (h : allC l x = some r) : l.all id = true ∧ x = some r := by
  induction l with
  | nil => exact ⟨rfl, h⟩
  | cons c l ih =>
    cases c
    · cases h
    · obtain ⟨h1, h2⟩ := ih h
      exact ⟨by simpa using h1, h2⟩

end

section
variable {R : Type} {F : Fn T R} {w0 : Frm} {M0 : Mem}

structure FnOk (F : Fn T R) : Prop where
  U : UOk F.U
  T : ∀ n f, F.Tb n = some f → SndE F.P F.U n f
  mix : F.P.follows .mixedOrders = true

theorem wpOps_step {ops : Array Oper} {Q : Exit → Act → World → Prop} {i : Nat} {rest : List Nat} {a : Act} {w : World} {o : Oper} (ho : ops[i]? = some o)
    (h : if Region.wanted o (yielded ops a.tmps) = true then o.wp F.P a w (wpOps F.P ops Q rest) Q ∨ (o.asks F.P a w ∧ LetsOut Q) else wpOps F.P ops Q rest (a.put o.dst undef) w) : wpOps F.P ops Q (i :: rest) a w := by
  simp only [wpOps, ho]
  exact h

def runG (F : Fn T R) (nid : Nat) (o : Oper) (s : St T) : Option (SV T × List (Nat × Blk T)) := match (opH F.P F.U F.Tb nid o.op).run s with
  | none => none
  | some c => match c.conds.all id with
    | true => c.call.map c.out
    | false => none

def run1 (F : Fn T R) (ops : Array Oper) (nid : Nat) (o : Oper) (s : St T) : Option (SV T × List (Nat × Blk T)) := match o.guard with
  | none => runG F nid o s
  | some (j, want) => match (ops[j]?).bind (·.dst) with
    | none => none
    | some d => match s.get d with
      | .v (.bool g) => if g = want then runG F nid o s else some (.v undef, [])
      | .v (.tuple ⟨[]⟩) => some (.v undef, [])
      | _ => none

theorem run1_sound (hF : FnOk F) {ops : Array Oper} {i nid : Nat} {o : Oper} {s : St T} {a : Act} {w : World} {ρ : Nat → Option Value} {M : Mem} {x : SV T} {ws : List (Nat × Blk T)} {K : Act → World → Prop} {Q : Exit → Act → World → Prop}
    (ho : ops[i]? = some o) (hd : dstOk F.nt o.dst = true) (Rr : Rh F.U w0 M0 F.nt s nid a w ρ M) (h : run1 F ops nid o s = some (x, ws))
    (hK : ∀ a' w' ρ' M', (∀ b, ¬ (nid ≤ b ∧ b < nid + 16) → ρ b = none → ρ' b = none) → Rc F.U w0 M0 F.nt ((s.puts ws).put o.dst x) a' w' ρ' M' → K a' w') : wpOp F.P ops Q i K a w := by
  have go : runG F nid o s = some (x, ws) → o.wp F.P a w K Q := by
    intro h
    unfold runG at h
    split at h
    · cases h
    · rename_i c hc
      split at h
      · rename_i hcond
        obtain ⟨y, hy, e⟩ := Option.map_eq_some_iff.1 h
        have G := good_h hF.U hF.T Rr hc hcond hy
        rw [e] at G
        refine G.wp fun v w' hp => ?_
        obtain ⟨ρ', M', h1, h2⟩ := PostH.rc Rr hd hp
        exact hK _ _ _ _ h1 h2
      · cases h
  unfold wpOp
  simp only [ho]
  unfold run1 at h
  split at h
  · rename_i hg
    rw [if_pos (by simp [Region.wanted, hg])]
    exact .inl (go h)
  · rename_i j want hg
    split at h
    · cases h
    · rename_i d hdj
      split at h
      · rename_i g hgd
        have hv := Rr.tm d
        rw [hgd] at hv
        generalize hvd : a.tmps.getD d undef = dv at hv
        cases hv
        have hy : yielded ops a.tmps j = some g := by
          unfold yielded
          rw [hdj]
          simp only [Option.bind_some]
          cases ht : a.tmps[d]? with
          | none => simp [Array.getD_eq_getD_getElem?, ht, undef] at hvd
          | some u =>
            have : u = .bool g := by simpa [Array.getD_eq_getD_getElem?, ht] using hvd
            rw [this]
        have hw : Region.wanted o (yielded ops a.tmps) = (g == want) := by
          simp only [Region.wanted, hg, hy]
          cases g <;> cases want <;> rfl
        split at h
        · rename_i e
          rw [if_pos (by rw [hw, e]; simp)]
          exact .inl (go h)
        · rename_i e
          cases h
          rw [if_neg (by rw [hw]; simpa using e)]
          exact hK _ _ _ _ (fun _ _ h => h) (Rr.rc.skip hd undef)
      · rename_i hgd
        cases h
        have hv := Rr.tm d
        rw [hgd] at hv
        generalize hvd : a.tmps.getD d undef = dv at hv
        cases hv
        have hy : yielded ops a.tmps j = none := by
          unfold yielded
          rw [hdj]
          simp only [Option.bind_some]
          cases ht : a.tmps[d]? with
          | none => rfl
          | some u =>
            have : u = .tuple ⟨[]⟩ := by simpa [Array.getD_eq_getD_getElem?, ht] using hvd
            rw [this]
        rw [if_neg (by simp [Region.wanted, hg, hy])]
        exact hK _ _ _ _ (fun _ _ h => h) (Rr.rc.skip hd undef)
      · cases h

/-! ### A region's run as a chain of steps, which may change places -/
theorem RQ.run_foot {α : Type 1} {s s' : St T} : ∀ (q : RQ T α), (∀ t ∈ q.footT s, s'.get t = s.get t) → (∀ b ∈ q.footB s, s'.blk b = s.blk b) → q.run s' = q.run s
  | .pure a, _, _ => rfl
  | .fail, _, _ => rfl
  | .getT t k, h1, h2 => by
    simp only [RQ.run]
    rw [h1 t (by simp [RQ.footT])]
    exact RQ.run_foot _ (fun u hu => h1 u (by simp [RQ.footT, hu])) (fun b hb => h2 b (by simpa [RQ.footB] using hb))
  | .getB b k, h1, h2 => by
    simp only [RQ.run]
    rw [h2 b (by simp [RQ.footB])]
    exact RQ.run_foot _ (fun u hu => h1 u (by simpa [RQ.footT] using hu)) (fun c hc => h2 c (by simp [RQ.footB, hc]))

theorem RQ.run_seq {α : Type 1} {s s' : St T} (h : SEq s s') (q : RQ T α) : q.run s' = q.run s := RQ.run_foot q (fun t _ => (h.1 t).symm) (fun b _ => (h.2 b).symm)

structure It (T : Nat → Type) where
  i : Nat
  o : Oper
  x : SV T
  ws : List (Nat × Blk T)
  f : Foot
  s0 : St T

def It.valid (it : It T) (s : St T) : Prop := (∀ t ∈ it.f.rt, s.get t = it.s0.get t) ∧ ∀ b ∈ it.f.rb, s.blk b = it.s0.blk b
def It.upd (it : It T) (s : St T) : St T := (s.puts it.ws).put it.o.dst it.x

structure ItOk (F : Fn T R) (ops : Array Oper) (nb : Nat) (it : It T) : Prop where
  at_ : ops[it.i]? = some it.o
  dst : dstOk F.nt it.o.dst = true
  wt : it.f.wt = it.o.dst
  wb : it.f.wb = it.ws.map (·.1)
  run : ∀ s, it.valid s → run1 F ops (nb + 16 * it.i) it.o s = some (it.x, it.ws)

def Ch : List (It T) → St T → St T → Prop
  | [], s, s' => SEq s s'
  | it :: L, s, s' => it.valid s ∧ Ch L (it.upd s) s'

theorem puts_blk (s s' : St T) (b : Nat) : ∀ ws : List (Nat × Blk T), (b ∈ ws.map (·.1) → (s.puts ws).blk b = (s'.puts ws).blk b) ∧ (b ∉ ws.map (·.1) → (s.puts ws).blk b = s.blk b)
  | [] => ⟨fun h => by simp at h, fun _ => rfl⟩
  | (c, k) :: ws => by
    rw [puts_cons s c k ws, puts_cons s' c k ws, blk_put1 (s.puts ws), blk_put1 (s'.puts ws)]
    obtain ⟨h1, h2⟩ := puts_blk s s' b ws
    by_cases e : c = b
    · subst e; simp
    · rw [if_neg e, if_neg e]
      refine ⟨fun h => h1 ?_, fun h => h2 ?_⟩
      · rcases List.mem_cons.1 h with h | h
        · exact absurd h.symm e
        · exact h
      · exact fun h' => h (List.mem_cons_of_mem _ h')

theorem upd_get (it : It T) (s : St T) (t : Nat) : (it.upd s).get t = if it.o.dst = some t then it.x else s.get t := by
  unfold It.upd
  rw [get_put]
  rfl
theorem upd_blk (it : It T) (s : St T) (b : Nat) : (it.upd s).blk b = (s.puts it.ws).blk b := by
  unfold It.upd
  cases it.o.dst <;> rfl

theorem upd_seq {it : It T} {s s' : St T} (h : SEq s s') : SEq (it.upd s) (it.upd s') :=
  ⟨fun t => by rw [upd_get, upd_get, h.1 t], fun b => by
    rw [upd_blk, upd_blk]
    by_cases hb : b ∈ it.ws.map (·.1)
    · exact (puts_blk s s' b it.ws).1 hb
    · rw [(puts_blk s s' b it.ws).2 hb, (puts_blk s' s b it.ws).2 hb, h.2 b]⟩

theorem Ch.seq : ∀ {L : List (It T)} {s s2 s' : St T}, SEq s s2 → Ch L s s' → Ch L s2 s'
  | [], s, s2, s', h, k => h.symm.trans k
  | it :: L, s, s2, s', h, k => ⟨⟨fun t ht => (h.1 t).symm.trans (k.1.1 t ht), fun b hb => (h.2 b).symm.trans (k.1.2 b hb)⟩, Ch.seq (upd_seq h) k.2⟩

theorem tdisj_spec {d : Option Nat} {l : List Nat} (h : tdisj d l = true) {t : Nat} (ht : t ∈ l) : d ≠ some t := by
  intro e
  subst e
  simp [tdisj, ht] at h
theorem disj_spec {l l' : List Nat} (h : disj l l' = true) {b : Nat} (hb : b ∈ l) : b ∉ l' := by
  have := List.all_eq_true.1 h b hb
  simpa using this

theorem Ch.swap {F : Fn T R} {ops : Array Oper} {nb : Nat} {x y : It T} {L : List (It T)} {s s' : St T} (hx : ItOk F ops nb x) (hy : ItOk F ops nb y) (hi : indepB x.f y.f = true) (h : Ch (x :: y :: L) s s') : Ch (y :: x :: L) s s' := by
  simp only [indepB, Bool.and_eq_true] at hi
  obtain ⟨i1, i2, i3, i4, i5⟩ := hi
  rw [hx.wt, hy.wt] at i1
  rw [hy.wt] at i2
  rw [hx.wb] at i3 i4
  rw [hy.wb] at i4 i5
  obtain ⟨⟨v1, v2⟩, ⟨u1, u2⟩, hc⟩ := h
  refine ⟨⟨fun t ht => ?_, fun b hb => ?_⟩, ⟨fun t ht => ?_, fun b hb => ?_⟩, Ch.seq ?_ hc⟩
  · have := u1 t ht
    rwa [upd_get, if_neg (tdisj_spec i1 (by simp [ht]))] at this
  · have := u2 b hb
    rwa [upd_blk, (puts_blk s s b x.ws).2 fun h => disj_spec i3 h hb] at this
  · rw [upd_get, if_neg (tdisj_spec i2 ht)]
    exact v1 t ht
  · rw [upd_blk, (puts_blk s s b y.ws).2 fun h => disj_spec i5 h hb]
    exact v2 b hb
  · refine ⟨fun t => ?_, fun b => ?_⟩
    · rw [upd_get, upd_get, upd_get, upd_get]
      by_cases e : x.o.dst = some t
      · by_cases e' : y.o.dst = some t
        · exact absurd e (tdisj_spec i1 (by simp [e']))
        · rw [if_neg e', if_pos e, if_pos e]
      · rw [if_neg e, if_neg e]
    · rw [upd_blk, upd_blk]
      by_cases b1 : b ∈ x.ws.map (·.1)
      · have b2 : b ∉ y.ws.map (·.1) := disj_spec i4 b1
        rw [(puts_blk _ s b y.ws).2 b2, upd_blk]
        exact (puts_blk s _ b x.ws).1 b1
      · rw [(puts_blk (y.upd s) s b x.ws).2 b1, upd_blk]
        by_cases b2 : b ∈ y.ws.map (·.1)
        · exact (puts_blk _ _ b y.ws).1 b2
        · rw [(puts_blk _ s b y.ws).2 b2, (puts_blk s s b y.ws).2 b2, upd_blk, (puts_blk s s b x.ws).2 b1]

theorem Ch.front {F : Fn T R} {ops : Array Oper} {nb : Nat} {y : It T} {L2 : List (It T)} (hy : ItOk F ops nb y) : ∀ {L1 : List (It T)} {s s' : St T}, (∀ x ∈ L1, ItOk F ops nb x ∧ indepB x.f y.f = true) → Ch (L1 ++ y :: L2) s s' → Ch (y :: (L1 ++ L2)) s s'
  | [], s, s', _, h => h
  | x :: L1, s, s', hi, h => by
    have ih := Ch.front hy (fun z hz => hi z (List.mem_cons_of_mem _ hz)) h.2
    obtain ⟨h1, h2⟩ := hi x (List.mem_cons_self ..)
    exact Ch.swap h1 hy h2 ⟨h.1, ih⟩

theorem seq_put1 {s : St T} {d : Nat} {x : SV T} (h : s.get d = x) : SEq s (s.put1 d x) :=
  ⟨fun t => by
    show _ = look .any t ((d, x) :: s.tm)
    rw [look_put]
    split
    · rename_i e; subst e; exact h
    · rfl, fun _ => rfl⟩

theorem runG_some {nid : Nat} {o : Oper} {s : St T} {c : Step T} {y : c.X} (h : (opH F.P F.U F.Tb nid o.op).run s = some c) (hc : c.conds.all id = true) (hy : c.call = some y) : runG F nid o s = some (c.out y) := by
  unfold runG
  rw [h]
  simp only [hc, hy, Option.map_some]

theorem runG_foot {nid : Nat} {o : Oper} {s s' : St T} (h1 : ∀ t ∈ (opH F.P F.U F.Tb nid o.op).footT s, s'.get t = s.get t) (h2 : ∀ b ∈ (opH F.P F.U F.Tb nid o.op).footB s, s'.blk b = s.blk b) : runG F nid o s' = runG F nid o s := by
  unfold runG
  rw [RQ.run_foot _ h1 h2]

theorem trace {ops : Array Oper} {nb : Nat} {r : R} {k : St T → List Foot → Option R} : ∀ {l : List Oper} {i : Nat} {s s1 : St T} {fs : List Foot}, evOps F ops nb l i s1 fs k = some r → SEq s s1 → (∀ j, l[j]? = ops[i + j]?) →
    ∃ L s' s1', SEq s' s1' ∧ k s1' (fs ++ L.map (·.f)) = some r ∧ (∀ it ∈ L, ItOk F ops nb it) ∧ L.map (·.i) = List.range' i l.length ∧ Ch L s s'
  | [], i, s, s1, fs, h, hs, _ => ⟨[], s, s1, hs, by simpa [evOps] using h, fun it h => by simp at h, rfl, .refl _⟩
  | o :: l, i, s, s1, fs, h, hs, hl => by
    have ho : ops[i]? = some o := by simpa using (hl 0).symm
    have hl' : ∀ j, l[j]? = ops[i + 1 + j]? := fun j => by have := hl (j + 1); rw [List.getElem?_cons_succ] at this; rw [this]; congr 1; omega
    simp only [evOps] at h
    split at h
    · cases h
    rename_i hd
    -- one step
    have one : ∀ (x : SV T) (ws : List (Nat × Blk T)) (f : Foot) (s2 : St T), SEq s s2 → f.wt = o.dst → f.wb = ws.map (·.1) →
        (∀ s', (∀ t ∈ f.rt, s'.get t = s.get t) → (∀ b ∈ f.rb, s'.blk b = s.blk b) → run1 F ops (nb + 16 * i) o s' = some (x, ws)) →
        evOps F ops nb l (i + 1) ((s2.puts ws).put o.dst x) (fs ++ [f]) k = some r →
        ∃ L s' s1', SEq s' s1' ∧ k s1' (fs ++ L.map (·.f)) = some r ∧ (∀ it ∈ L, ItOk F ops nb it) ∧ L.map (·.i) = List.range' i (o :: l).length ∧ Ch L s s' := by
      intro x ws f s2 h2 hwt hwb hrun hev
      let it : It T := ⟨i, o, x, ws, f, s⟩
      have hseq : SEq (it.upd s) ((s2.puts ws).put o.dst x) := upd_seq (it := it) h2
      obtain ⟨L, s', s1', e1, e2, e3, e4, e5⟩ := trace hev hseq hl'
      refine ⟨it :: L, s', s1', e1, by simpa using e2, fun it' hit => ?_, ?_, ⟨⟨fun _ _ => rfl, fun _ _ => rfl⟩, e5⟩⟩
      · rcases List.mem_cons.1 hit with rfl | hit
        · exact ⟨ho, hd, hwt, hwb, fun s' hv => hrun s' hv.1 hv.2⟩
        · exact e3 it' hit
      · simp [List.range'_succ, e4, it]
    have go : ∀ (s2 : St T) (g : List Nat), SEq s s2 →
        (∀ s', (∀ t ∈ g, s'.get t = s.get t) → run1 F ops (nb + 16 * i) o s' = runG F (nb + 16 * i) o s') →
        (match (opH F.P F.U F.Tb (nb + 16 * i) o.op).run s2 with
        | none => none
        | some c => allC c.conds (c.call.bind fun x => evOps F ops nb l (i + 1) ((s2.puts (c.out x).2).put o.dst (c.out x).1)
            (fs ++ [⟨g ++ (opH F.P F.U F.Tb (nb + 16 * i) o.op).footT s2, (opH F.P F.U F.Tb (nb + 16 * i) o.op).footB s2, o.dst, (c.out x).2.map (·.1)⟩]) k)) = some r →
        ∃ L s' s1', SEq s' s1' ∧ k s1' (fs ++ L.map (·.f)) = some r ∧ (∀ it ∈ L, ItOk F ops nb it) ∧ L.map (·.i) = List.range' i (o :: l).length ∧ Ch L s s' := by
      intro s2 g h2 hg h
      split at h
      · cases h
      · rename_i c hc
        obtain ⟨hcond, h⟩ := allC_some h
        obtain ⟨y, hy, h⟩ := Option.bind_eq_some_iff.1 h
        refine one _ _ _ s2 h2 rfl rfl (fun s' k1 k2 => ?_) h
        rw [hg s' fun t ht => k1 t (by simp [ht]), ← runG_some hc hcond hy]
        exact runG_foot (fun t ht => (k1 t (by simp [ht])).trans (h2.1 t)) (fun b hb => (k2 b hb).trans (h2.2 b))
    split at h
    · rename_i hg
      exact go s1 [] hs (fun s' _ => by unfold run1; rw [hg]) h
    · rename_i j want hg
      split at h
      · cases h
      · rename_i d hdj
        split at h
        · rename_i g hgd
          have hgs : s.get d = .v (.bool g) := (hs.1 d).trans hgd
          have yes : g = want → (match (opH F.P F.U F.Tb (nb + 16 * i) o.op).run (s1.put1 d (.v (.bool want))) with
              | none => none
              | some c => allC c.conds (c.call.bind fun x => evOps F ops nb l (i + 1) (((s1.put1 d (.v (.bool want))).puts (c.out x).2).put o.dst (c.out x).1)
                  (fs ++ [⟨[d] ++ (opH F.P F.U F.Tb (nb + 16 * i) o.op).footT (s1.put1 d (.v (.bool want))), (opH F.P F.U F.Tb (nb + 16 * i) o.op).footB (s1.put1 d (.v (.bool want))), o.dst, (c.out x).2.map (·.1)⟩]) k)) = some r →
              ∃ L s' s1', SEq s' s1' ∧ k s1' (fs ++ L.map (·.f)) = some r ∧ (∀ it ∈ L, ItOk F ops nb it) ∧ L.map (·.i) = List.range' i (o :: l).length ∧ Ch L s s' := by
            intro e h2
            refine go _ [d] (hs.trans (seq_put1 (by rw [hgd, e]))) (fun s' hs' => ?_) h2
            unfold run1
            simp only [hg, hdj, hs' d (by simp), hgs]
            rw [if_pos e]
          have no : g = !want → evOps F ops nb l (i + 1) ((s1.put1 d (.v (.bool (!want)))).put o.dst (.v undef)) (fs ++ [⟨[d], [], o.dst, []⟩]) k = some r →
              ∃ L s' s1', SEq s' s1' ∧ k s1' (fs ++ L.map (·.f)) = some r ∧ (∀ it ∈ L, ItOk F ops nb it) ∧ L.map (·.i) = List.range' i (o :: l).length ∧ Ch L s s' := by
            intro e h2
            refine one (.v undef) [] _ (s1.put1 d (.v (.bool (!want)))) (hs.trans (seq_put1 (by rw [hgd, e]))) rfl rfl (fun s' hs' _ => ?_) h2
            unfold run1
            simp only [hg, hdj, hs' d (by simp), hgs]
            rw [if_neg (by rw [e]; cases want <;> simp)]
          cases want <;> cases g <;> simp only [cond_true, cond_false] at h
          · exact yes rfl h
          · exact no rfl h
          · exact no rfl h
          · exact yes rfl h
        · rename_i hgd
          have hgs : s.get d = .v (.tuple ⟨[]⟩) := (hs.1 d).trans hgd
          refine one (.v undef) [] ⟨[d], [], o.dst, []⟩ s1 hs rfl rfl (fun s' hs' _ => ?_) h
          unfold run1
          simp only [hg, hdj, hs' d (by simp), hgs]
        · cases h

/-- The text's order. -/
theorem ch_text (hF : FnOk F) {ops : Array Oper} {nb : Nat} {Q : Exit → Act → World → Prop} {s' : St T} {e : Nat} : ∀ {L : List (It T)} {i : Nat} {s : St T} {a : Act} {w : World} {ρ : Nat → Option Value} {M : Mem},
    Ch L s s' → (∀ it ∈ L, ItOk F ops nb it) → L.map (·.i) = List.range' i L.length → e = i + L.length → Rc F.U w0 M0 F.nt s a w ρ M → (∀ b, nb + 16 * i ≤ b → ρ b = none) →
    (∀ a' w' ρ' M', Rc F.U w0 M0 F.nt s' a' w' ρ' M' → (∀ b, nb + 16 * e ≤ b → ρ' b = none) → Q .normal a' w') → wpOps F.P ops Q (List.range' i L.length) a w
  | [], i, s, a, w, ρ, M, h, _, _, he, Rr, hn, hQ => by
    simp only [List.length_nil, List.range'_zero, wpOps]
    exact hQ a w ρ M (Rr.congr h) (by simpa [he] using hn)
  | it :: L, i, s, a, w, ρ, M, h, hok, hi, he, Rr, hn, hQ => by
    simp only [List.map_cons, List.length_cons, List.range'_succ, List.cons.injEq] at hi
    obtain ⟨hi0, hi1⟩ := hi
    have ok := hok it (List.mem_cons_self ..)
    simp only [List.length_cons, List.range'_succ]
    rw [wpOps_cons]
    have hat : ops[i]? = some it.o := hi0 ▸ ok.at_
    have hrun : run1 F ops (nb + 16 * i) it.o s = some (it.x, it.ws) := hi0 ▸ ok.run s h.1
    refine run1_sound hF hat ok.dst (Rr.rl fun b h1 h2 => hn b h1) hrun fun a' w' ρ' M' h1 h2 => ?_
    exact ch_text hF h.2 (fun x hx => hok x (List.mem_cons_of_mem _ hx)) hi1 (by rw [he, List.length_cons]; omega) h2 (fun b hb => h1 b (by omega) (hn b (by omega))) hQ
end
end Go.Sx
