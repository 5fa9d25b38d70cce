/- An evaluator of the model's code over symbolic values, and its soundness: part 18. No condition. -/
import Derived.Test.YtecniihieninjaaSyHr
set_option linter.unusedVariables false
set_option linter.unusedSimpArgs false
namespace Go.Sx
open Go.RowKit
variable {T : Nat → Type} {U : Univ T} {P : Program}

section
variable {w0 : Frm} {M0 : Mem} {nt nid : Nat} {s : St T} {a : Act} {w : World} {ρ ρ' : Nat → Option Value} {M : Mem} {c : Step T} {o : Oper} {Tb : Calls_ T} {α : Type 1} {r : α}

theorem blk_cons (s : St T) (k : Nat) (x : Blk T) (ws : List (Nat × Blk T)) (b : Nat) : (s.puts ((k, x) :: ws)).blk b = if k = b then x else (s.puts ws).blk b := by rw [puts_cons, blk_put1]

/-- A slice of a handle's row. -/
theorem absR_ok (hU : UOk U) {lo : Nat} (hm : U.hm = true) {q : RQ T (Step T)} (hq : RqOk P U w0 M0 nt nid a w o lo q) (R : Rh8 U w0 M0 nt s nid a w ρ M) (nx : ∀ b, lo ≤ b → b < nid + 16 → ρ b = none) {cs : List (Cell T)} (hcs : s.blk PLB = .mark cs)
    (hr : q.run s = some c) (hc : c.conds.all id = true) {x : c.X} (hx : c.call = some x) :
    OpOk P o a w (PostH U w0 M0 s nid ρ M (absR cs (c.out x)).1 (absR cs (c.out x)).2) := by
  obtain ⟨dk, ok⟩ := hq s ρ M c R nx hr hc x hx
  obtain ⟨ds, g2, _⟩ := dk cs hcs
  have eh := heapO_of hcs g2
  generalize c.out x = y at dk ok g2 eh
  obtain ⟨y, ws⟩ := y
  unfold absR
  cases y with
  | row t xs =>
    refine ok.imp fun v w' ⟨ρ', M', hρ, hM, hf, mr, hx', hvr⟩ => ?_
    simp only at eh g2 mr hx' hvr ⊢
    rw [eh]
    obtain ⟨A, cap, e⟩ := row_slice hvr
    obtain ⟨hle, m1, x1⟩ := gh_more (c := .frz t xs) mr hx' hm g2 (v := v) ⟨⟨A, xs.length, cap, e⟩, hvr.nr1 hU rfl⟩ (fun h => by cases h)
    have ee : plE (s.puts ws).blk (ds ++ [.frz t xs]) = (s.puts ((PLB, .mark (ds ++ [.frz t xs])) :: ws)).blk := funext fun b => (blk_cons s _ _ ws b).symm
    rw [ee] at m1 x1
    refine ⟨ρ', _, hρ, hM.trans hle, hf, m1, x1, ?_⟩
    subst e
    exact .hnd t ds.length A _ cap (by show (if _ then _ else _) = _; rw [if_pos rfl])
  | _ => exact ok

theorem fndW_noIb (b b' : Nat) (bs : List (Nat × Blk T)) : fndW b' (noIb b bs) = if b' = b then none else fndW b' bs := by
  induction bs with
  | nil => simp [noIb, fndW]
  | cons p bs ih =>
    obtain ⟨k, x⟩ := p
    unfold noIb at ih ⊢
    rw [List.filter_cons]
    cases hk : Nat.beq k b with
    | true =>
      have := (beq_iff k b).1 hk
      subst this
      simp only [Bool.not_true, Bool.false_eq_true, if_false]
      rw [ih]
      by_cases e : b' = k
      · rw [if_pos e, if_pos e]
      · rw [if_neg e, if_neg e]
        simp only [fndW]
        have : Nat.beq k b' = false := by
          cases hb : Nat.beq k b'
          · rfl
          · exact absurd ((beq_iff _ _).1 hb).symm e
        rw [this]
    | false =>
      simp only [Bool.not_false, if_true, fndW]
      rw [ih]
      cases hb : Nat.beq k b' with
      | true =>
        have := (beq_iff _ _).1 hb
        subst this
        have hkb : k ≠ b := fun e => by rw [(beq_iff _ _).2 e] at hk; cases hk
        simp only [if_neg hkb]
      | false => rfl

/-- A row of one's own that goes into the heap. -/
theorem gh_abs (hU : UOk U) {e : Nat → Blk T} (hmr : MR U w0 (M0.wh M) e ρ M w) (hx : HX U w0 M0 e ρ M w) (hm : U.hm = true) {cs : List (Cell T)} (hcs : e PLB = .mark cs) {b t : Nat} {xs : List (T t)} (hb : e b = .arr t xs) (hmk : b ≠ MKB) :
    ∃ v, ρ b = some v ∧ LeM M (M.more cs.length v) ∧ MR U w0 (M0.wh (M.more cs.length v)) (plE (fun x => if b = x then .dead else e x) (cs ++ [.arr t xs])) ρ (M.more cs.length v) w ∧
      HX U w0 M0 (plE (fun x => if b = x then .dead else e x) (cs ++ [.arr t xs])) ρ (M.more cs.length v) w := by
  obtain ⟨cs', e0, PR⟩ := hx.on hm
  rw [hcs] at e0
  cases e0
  have hne : b ≠ PLB := fun h => by rw [h, hcs] at hb; cases hb
  rcases hmr.blk b with d | ⟨_, d⟩ | ⟨v, hv, hB⟩
  · rw [hb] at d; cases d
  · rw [hb] at d; cases d
  rw [hb] at hB
  have m1 : MR U w0 (M0.wh M) (fun x => if b = x then .dead else e x) ρ M w := hmr.env fun x => by
    by_cases k : b = x
    · subst k; exact .inr ⟨hmk, .inl (if_pos rfl)⟩
    · exact .inl (if_neg k)
  have x1 : HX U w0 M0 (fun x => if b = x then .dead else e x) ρ M w := hx.env (fun ds k1 k2 => ⟨by simp only [if_neg hne]; exact k1, by simp only [if_neg hmk]; exact k2⟩) fun b' u g k1 k2 k3 => ⟨b', u, by
    by_cases k : b = b'
    · simp only [if_pos k] at k1; cases k1
    · simp only [if_neg k] at k1; exact k1, k2, k3⟩
  have hlb : (e b).live = true := by rw [hb]; rfl
  obtain ⟨cl, k1, k2, k3, k4⟩ := hB
  refine ⟨v, hv, gh_more (c := .arr t xs) m1 x1 hm (by simp only [if_neg hne]; exact hcs) (v := v) ⟨cl, k1, k2.nr_ hU, k3, k4⟩ fun _ g hg => ⟨hmr.lt hlb hv hg, fun b' vb h1 h2 h3 => ?_, fun j cj vj h1 h2 h3 h4 => PR.apart j cj b vj v g h1 h2 hlb h3 hv h4 hg⟩⟩
  by_cases k : b = b'
  · simp only [if_pos k] at h1; cases h1
  · simp only [if_neg k] at h1
    exact k (hmr.inj b b' v vb g hlb h1 hv h2 hg h3)

def abE (e : Nat → Blk T) (cs : List (Cell T)) (ws : List (Nat × Blk T)) : Nat → Blk T := fun x => if PLB = x then .mark cs else (fndW x ws).getD (e x)
theorem abE_puts (s : St T) (cs : List (Cell T)) (ws : List (Nat × Blk T)) : (s.puts ((PLB, .mark cs) :: ws)).blk = abE s.blk cs ws := funext fun b => by
  rw [blk_cons, fndW_blk]; rfl
theorem absL_dead : ∀ (l : List (SV T)) (cs : List (Cell T)) (bs : List (Nat × Blk T)) (b : Nat) (k : Blk T), fndW b (absL cs l bs).2.2 = some k → k = .dead
  | [], cs, bs, b, k, h => by simp [absL, fndW] at h
  | x :: r, cs, bs, b, k, h => by
    cases x with
    | own b' =>
      simp only [absL] at h
      split at h
      · simp only [fndW] at h
        split at h
        · cases h; rfl
        · exact absL_dead r _ _ _ _ h
      · exact absL_dead r _ _ _ _ h
    | _ => exact absL_dead r _ _ _ _ h

theorem absL_ok (hU : UOk U) (hm : U.hm = true) : ∀ (l : List (SV T)) (e : Nat → Blk T) (M : Mem) (cs : List (Cell T)) (bs : List (Nat × Blk T)), MR U w0 (M0.wh M) e ρ M w → HX U w0 M0 e ρ M w → e PLB = .mark cs → (∀ b k, fndW b bs = some k → b ≠ PLB ∧ b ≠ MKB ∧ e b = k) →
    ∃ M', LeM M M' ∧ MR U w0 (M0.wh M') (abE e (absL cs l bs).2.1 (absL cs l bs).2.2) ρ M' w ∧ HX U w0 M0 (abE e (absL cs l bs).2.1 (absL cs l bs).2.2) ρ M' w ∧ ∀ vs, VRs U ρ M l vs → VRs U ρ M' (absL cs l bs).1 vs
  | [], e, M, cs, bs, m, x, hcs, hb => by
    have : abE e cs [] = e := funext fun b => by
      unfold abE
      split
      · rename_i k; subst k; exact hcs.symm
      · rfl
    refine ⟨M, .refl _, ?_, ?_, fun vs h => h⟩
    · show MR U w0 _ (abE e cs []) ρ M w
      rw [this]; exact m
    · show HX U w0 _ (abE e cs []) ρ M w
      rw [this]; exact x
  | x :: r, e, M, cs, bs, m, hx, hcs, hb => by
    have same : ∀ x', (∀ v, VR U ρ M x v → VR U ρ M x' v) → ∃ M', LeM M M' ∧ MR U w0 (M0.wh M') (abE e (absL cs r bs).2.1 (absL cs r bs).2.2) ρ M' w ∧ HX U w0 M0 (abE e (absL cs r bs).2.1 (absL cs r bs).2.2) ρ M' w ∧ ∀ vs, VRs U ρ M (x :: r) vs → VRs U ρ M' (x' :: (absL cs r bs).1) vs := by
      intro x' hx'
      obtain ⟨M', h1, h2, h3, h4⟩ := absL_ok hU hm r e M cs bs m hx hcs hb
      refine ⟨M', h1, h2, h3, fun vs h => ?_⟩
      obtain ⟨v, vs', rfl, k1, k2⟩ := h.uncons
      exact .cons ((hx' v k1).mono (.refl _) h1) (h4 _ k2)
    cases x with
    | own b =>
      simp only [absL]
      split
      · rename_i t xs hf
        obtain ⟨hb1, hb2, hb3⟩ := hb b _ hf
        obtain ⟨v, hv, hle, m1, x1⟩ := gh_abs hU m hx hm hcs hb3 hb2
        obtain ⟨M', h1, h2, h3, h4⟩ := absL_ok hU hm r _ _ (cs ++ [.arr t xs]) (noIb b bs) m1 x1 (by unfold plE; rw [if_pos rfl]) (fun b' k hf' => by
          rw [fndW_noIb] at hf'
          split at hf'
          · cases hf'
          · rename_i hn
            obtain ⟨k1, k2, k3⟩ := hb b' k hf'
            refine ⟨k1, k2, ?_⟩
            unfold plE
            rw [if_neg (Ne.symm k1)]; exact (if_neg (Ne.symm hn)).trans k3)
        have ee : abE (plE (fun x => if b = x then .dead else e x) (cs ++ [.arr t xs])) (absL (cs ++ [.arr t xs]) r (noIb b bs)).2.1 (absL (cs ++ [.arr t xs]) r (noIb b bs)).2.2 = abE e (absL (cs ++ [.arr t xs]) r (noIb b bs)).2.1 ((b, .dead) :: (absL (cs ++ [.arr t xs]) r (noIb b bs)).2.2) := funext fun x => by
          unfold abE
          by_cases k : PLB = x
          · rw [if_pos k, if_pos k]
          · rw [if_neg k, if_neg k]
            simp only [fndW]
            by_cases k2 : b = x
            · subst k2
              rw [Nat.beq_refl]
              simp only [Option.getD_some]
              cases hd : fndW b (absL (cs ++ [.arr t xs]) r (noIb b bs)).2.2 with
              | none => unfold plE; rw [Option.getD_none, if_neg k]; exact if_pos rfl
              | some kk => exact absL_dead _ _ _ _ _ hd
            · have : Nat.beq b x = false := by
                cases hbb : Nat.beq b x
                · rfl
                · exact absurd ((beq_iff _ _).1 hbb) k2
              rw [this]
              simp only
              unfold plE
              rw [if_neg k]
              congr 1
              exact if_neg k2
        rw [ee] at h2 h3
        refine ⟨M', hle.trans h1, h2, h3, fun vs h => ?_⟩
        obtain ⟨u, vs', rfl, k1, k2⟩ := h.uncons
        refine .cons ?_ (h4 _ (k2.mono hle))
        cases k1 with
        | own _ A n cp hρ =>
          rw [hv] at hρ
          cases hρ
          exact .hnd t cs.length A n cp (h1.hp _ _ (by show (if _ then _ else _) = _; rw [if_pos rfl]))
      · exact same _ fun _ _ => .any _
    | _ => exact same _ fun _ h => h

theorem rdBs_run {α : Type 1} {r : α} : ∀ {bs : List Nat} {k : List (Nat × Blk T) → RQ T α}, (rdBs bs k).run s = some r → (k (bs.map fun b => (b, s.blk b))).run s = some r
  | [], k, h => h
  | b :: bs, k, h => rdBs_run (bs := bs) h
theorem wBs_run {α : Type 1} : ∀ (ws : List (Nat × Blk T)) (q : RQ T α) (s : St T), (RQ.wBs ws q).run s = q.run (s.puts ws)
  | [], q, s => rfl
  | (b, x) :: r, q, s => by
    show (RQ.wBs r (q.wB b x)).run s = _
    rw [wBs_run r, RQ.wB_run]
    rfl
theorem fndW_map {b : Nat} {k : Blk T} : ∀ {bs : List Nat}, fndW b (bs.map fun b => (b, s.blk b)) = some k → b ∈ bs ∧ s.blk b = k
  | [], h => by simp [fndW] at h
  | c :: bs, h => by
    simp only [List.map_cons, fndW] at h
    split at h
    · rename_i e
      have := (beq_iff _ _).1 e
      subst this
      cases h
      exact ⟨by simp, rfl⟩
    · obtain ⟨h1, h2⟩ := fndW_map h
      exact ⟨by simp [h1], h2⟩

theorem VRs.of_agg {l : List (SV T)} {v : Value} (h : VR U ρ M (.agg l) v) : ∃ vs : List Value, v = .agg vs.toArray ∧ VRs U ρ M l vs ∧ ∀ u ∈ vs, u.oneCell' = true := by
  cases h with
  | agg _ vs hl hf h => exact ⟨vs, rfl, ⟨hl, h⟩, hf⟩

/-- A store of a value that holds rows of one's own. -/
theorem absQ_ok (hU : UOk U) (hm : U.hm = true) {lo : Nat} {q : RQ T (Step T)} (hq : RqOk P U w0 M0 nt nid a w o lo q) (R : Rh8 U w0 M0 nt s nid a w ρ M) (nx : ∀ b, lo ≤ b → b < nid + 16 → ρ b = none) {p : Nat} {l : List (SV T)} {ag : Bool} (hl : (ag = true ∧ s.get p = .agg l) ∨ (ag = false ∧ ∃ b, l = [.own b] ∧ s.get p = .own b))
    (hr : (absQ q p l ag).run s = some c) (hc : c.conds.all id = true) {x : c.X} (hx : c.call = some x) :
    OpOk P o a w (PostH U w0 M0 s nid ρ M (c.out x).1 (c.out x).2) := by
  unfold absQ at hr
  split at hr
  · cases hr
  rename_i hn
  obtain ⟨n1, n2⟩ := Bool.or_eq_false_iff.1 hn
  have h1 : ∀ b ∈ ownsL l, b ≠ PLB ∧ b ≠ MKB := fun b hb => ⟨fun e => (by subst e; rw [List.contains_iff_mem.2 hb] at n1; cases n1), fun e => (by subst e; rw [List.contains_iff_mem.2 hb] at n2; cases n2)⟩
  simp only [RQ.run] at hr
  cases hcs : s.blk PLB with
  | dead => rw [hcs] at hr; cases hr
  | cells t' ys => rw [hcs] at hr; cases hr
  | arr t' ys => rw [hcs] at hr; cases hr
  | frz t' ys => rw [hcs] at hr; cases hr
  | mark cs =>
  rw [hcs] at hr
  have hr := rdBs_run hr
  generalize hbs : (ownsL l).map (fun b => (b, s.blk b)) = bs at hr
  obtain ⟨M', hle, m1, x1, hv⟩ := absL_ok hU hm l s.blk M cs bs R.mr R.hx hcs fun b k hf => by
    rw [← hbs] at hf
    obtain ⟨k1, k2⟩ := fndW_map hf
    exact ⟨(h1 b k1).1, (h1 b k1).2, k2⟩
  generalize hy : absL cs l bs = y at hr m1 x1 hv
  obtain ⟨c0, g0, g1⟩ := RQ.bind_run hr
  simp only [RQ.run, Option.some.injEq] at g1
  subst g1
  rw [wBs_run, RQ.wT_run] at g0
  rw [← abE_puts] at m1 x1
  generalize hs1 : s.puts ((PLB, .mark y.2.1) :: y.2.2) = s1 at m1 x1 g0
  have hg1 : ∀ t, s1.get t = s.get t := fun t => by rw [← hs1]; rfl
  have tmv : VR U ρ M' (absQ.oneA ag y.1) (a.tmps.getD p undef) := by
    have hp := R.tm p
    rcases hl with ⟨rfl, e⟩ | ⟨rfl, b, rfl, e⟩
    · rw [e] at hp
      obtain ⟨vs, e2, k1, k2⟩ := VRs.of_agg hp
      rw [e2]
      have := hv vs k1
      show VR U ρ M' (.agg y.1) _
      exact .agg _ vs this.1 k2 this.2
    · rw [e] at hp
      have := hv [a.tmps.getD p undef] ⟨rfl, fun i h1 h2 => by
        have : i = 0 := by simpa using h1
        subst this
        exact hp⟩
      generalize y.1 = yl at this
      match yl, this with
      | [x'], this => exact this.2 0 (by simp) (by simp)
      | [], this => exact absurd this.1 (by simp)
      | _ :: _ :: _, this => exact absurd this.1 (by simp)
  have R1 : Rh8 U w0 M0 nt (s1.put1 p (absQ.oneA ag y.1)) nid a w ρ M' := ⟨m1, fun t => by
    rw [get_put1]
    split
    · rename_i e; subst e; exact tmv
    · rw [hg1]; exact (R.tm t).mono (.refl _) hle, R.sz, R.df, R.nw, x1⟩
  obtain ⟨_, ok⟩ := hq _ _ _ c0 R1 nx g0 hc x hx
  refine ok.imp fun v w' ⟨ρ', M2, hρ, hM, hf, mr, hx', hvr⟩ => ?_
  have ee : ((s1.put1 p (absQ.oneA ag y.1)).puts (c0.out x).2).blk = (s.puts ((c0.out x).2 ++ ((PLB, .mark y.2.1) :: y.2.2))).blk := by
    rw [← hs1]
    unfold St.puts St.put1
    funext b
    show look Blk.dead b _ = look Blk.dead b _
    rw [List.append_assoc]
  rw [ee] at mr hx'
  exact ⟨ρ', M2, hρ, hle.trans hM, hf, mr, hx', hvr⟩

theorem impA_ok (hU : UOk U) (hm : U.hm = true) {lo : Nat} {q : RQ T (Step T)} {p : Op} (hq : RqOk P U w0 M0 nt nid a w o lo q) (R : Rh8 U w0 M0 nt s nid a w ρ M) (nx : ∀ b, lo ≤ b → b < nid + 16 → ρ b = none)
    (hr : (impA q p).run s = some c) (hc : c.conds.all id = true) {x : c.X} (hx : c.call = some x) :
    OpOk P o a w (PostH U w0 M0 s nid ρ M (c.out x).1 (c.out x).2) := by
  have base : q.run s = some c → OpOk P o a w (PostH U w0 M0 s nid ρ M (c.out x).1 (c.out x).2) := fun h => (hq s ρ M c R nx h hc x hx).2
  unfold impA at hr
  split at hr
  · rename_i t p x
    simp only [RQ.run] at hr
    split at hr
    · simp only [RQ.run] at hr
      split at hr
      · rename_i b hb
        exact absQ_ok hU hm hq R nx (.inr ⟨rfl, b, rfl, hb⟩) hr hc hx
      · rename_i l hl
        split at hr
        · exact base hr
        · exact absQ_ok hU hm hq R nx (.inl ⟨rfl, hl⟩) hr hc hx
      · exact base hr
    · exact base hr
  · exact base hr
end
end Go.Sx
