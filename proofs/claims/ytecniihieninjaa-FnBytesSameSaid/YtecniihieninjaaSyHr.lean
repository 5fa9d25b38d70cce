/- An evaluator of the model's code over symbolic values, and its soundness: part 17. No condition. -/
import Derived.Test.YtecniihieninjaaSyHq
set_option linter.unusedVariables false
set_option linter.unusedSimpArgs false
namespace Go.Sx
open Go.RowKit
variable {T : Nat → Type} {U : Univ T} {P : Program}

section
variable {w0 : Frm} {M0 : Mem} {nt nid : Nat} {s : St T} {a : Act} {w : World} {ρ ρ' : Nat → Option Value} {M : Mem} {c : Step T} {o : Oper} {Tb : Calls_ T} {α : Type 1} {r : α}

theorem fndW_blk (s : St T) (ib : Nat) : ∀ ws : List (Nat × Blk T), (s.puts ws).blk ib = (fndW ib ws).getD (s.blk ib)
  | [] => rfl
  | (b, k) :: r => by
    rw [puts_cons, blk_put1]
    unfold fndW
    by_cases h : b = ib
    · subst h; simp
    · have : Nat.beq b ib = false := by
        cases hb : Nat.beq b ib
        · rfl
        · exact absurd (Nat.eq_of_beq_eq_true hb) h
      rw [this, if_neg h]
      exact fndW_blk s ib r
theorem blk_filter (s : St T) (ib : Nat) (ws : List (Nat × Blk T)) (b : Nat) : (s.puts (ws.filter fun p => !Nat.beq p.1 ib)).blk b = if b = ib then s.blk b else (s.puts ws).blk b := by
  induction ws with
  | nil => show s.blk b = _; split <;> rfl
  | cons p ws ih =>
    obtain ⟨k, x⟩ := p
    rw [List.filter_cons]
    cases hk : Nat.beq k ib with
    | true =>
      have := (beq_iff k ib).1 hk
      subst this
      simp only [Bool.not_true, Bool.false_eq_true, if_false]
      rw [ih, puts_cons, blk_put1]
      by_cases e : b = k
      · rw [if_pos e, if_pos e]
      · rw [if_neg e, if_neg e, if_neg (Ne.symm e)]
    | false =>
      simp only [Bool.not_false, if_true]
      rw [puts_cons, blk_put1, puts_cons, blk_put1, ih]
      by_cases e : k = b
      · subst e
        have : k ≠ ib := fun h => by rw [(beq_iff k ib).2 h] at hk; cases hk
        rw [if_pos rfl, if_neg this, if_pos rfl]
      · rw [if_neg e, if_neg e]

/-- The state in which a handle's row has a name. -/
def impS (s : St T) (ib p t h : Nat) (cs : List (Cell T)) (sv : SV T) : St T := (s.puts [(ib, .arr t (rdc t cs h)), (PLB, .mark (setc cs h .dead))]).put1 p sv

/-- What a handle's value is. -/
def hv (M : Mem) : Nat → Value → Prop
  | 0, v => v = .slice none 0 0
  | j + 1, v => M.hp j = some v

theorem imp_rh {lo : Nat} (R : Rh8 U w0 M0 nt s nid a w ρ M) (nx : ∀ b, lo ≤ b → b < nid + 16 → ρ b = none) (h8 : nid + 8 ≤ lo) (h16 : lo < nid + 16) (hm : U.hm = true) {cs : List (Cell T)} (hcs : s.blk PLB = .mark cs) {t h p : Nat} (hok : okA t cs h = true) (h1 : lo ≠ PLB) (h2 : lo ≠ MKB) {sv : SV T}
    (hsv : ∀ v, hv M h v → VR U (updR ρ lo v) M sv (a.tmps.getD p undef)) :
    ∃ v, hv M h v ∧ (∀ j, h = j + 1 → cs[j]? = some (.arr t (rdc t cs h))) ∧ ρ lo = none ∧ Rh8 U w0 M0 nt (impS s lo p t h cs sv) nid a w (updR ρ lo v) M := by
  have hib : ρ lo = none := nx _ (Nat.le_refl _) h16
  have main : ∀ v, hv M h v → MR U w0 (M0.wh M) (s.puts [(lo, .arr t (rdc t cs h)), (PLB, .mark (setc cs h .dead))]).blk (updR ρ lo v) M w → HX U w0 M0 (s.puts [(lo, .arr t (rdc t cs h)), (PLB, .mark (setc cs h .dead))]).blk (updR ρ lo v) M w → Rh8 U w0 M0 nt (impS s lo p t h cs sv) nid a w (updR ρ lo v) M := by
    intro v hv m1 x1
    refine ⟨m1, fun u => ?_, R.sz, R.df, fun b b1 b2 => ?_, x1⟩
    · unfold impS
      rw [get_put1]
      split
      · rename_i ep; subst ep; exact hsv v hv
      · exact (R.tm u).mono (LeR.upd hib) (.refl _)
    · unfold updR
      rw [if_neg (by omega)]
      exact R.nw b b1 b2
  cases h with
  | zero =>
    obtain ⟨m1, x1⟩ := gh_nil R.mr R.hx hcs t hib h1 h2
    exact ⟨_, rfl, fun j e => (by cases e), hib, main _ rfl m1 x1⟩
  | succ j =>
    have hj := okA_cell hok
    obtain ⟨v, hv, m1, x1⟩ := gh_imp R.mr R.hx hm hcs hj hib h1 h2
    exact ⟨v, hv, fun j' e => (by cases e; exact hj), hib, main v hv m1 x1⟩

theorem blk_puts_congr {s s' : St T} {b : Nat} (h : s.blk b = s'.blk b) : ∀ ws : List (Nat × Blk T), (s.puts ws).blk b = (s'.puts ws).blk b
  | [] => h
  | (k, x) :: r => by rw [puts_cons, blk_put1, puts_cons, blk_put1, blk_puts_congr h r]

theorem VR.exp {ib t h : Nat} {u : Value} (hρ : ρ ib = some u) (hp : hv M h u) {x : SV T} {v : Value} (k : VR U ρ M x v) : VR U ρ M (expS ib t h x) v := by
  cases x with
  | own b =>
    simp only [expS]
    split
    · rename_i e
      have := (beq_iff b ib).1 e
      subst this
      cases k with
      | own _ A n cp h1 =>
        rw [hρ] at h1; cases h1
        cases h with
        | zero => cases hp; exact .hnd0 t
        | succ j => exact .hnd t j A n cp hp
    · exact k
  | eptr b t' i o =>
    simp only [expS]
    split
    · rename_i e
      have := (beq_iff b ib).1 e
      subst this
      cases k with
      | eptr _ g n cp _ _ _ h1 =>
        rw [hρ] at h1; cases h1
        cases h with
        | zero => cases hp
        | succ j => exact .hptr j g n cp t' i o hp
    · exact k
  | _ => exact k

/-- Cells that are gone stay gone. -/
def DK (s : St T) (ws : List (Nat × Blk T)) : Prop := ∀ cs, s.blk PLB = .mark cs → ∃ ds, (s.puts ws).blk PLB = .mark ds ∧ ∀ j : Nat, cs[j]? = some .dead → ds[j]? = some .dead
/-- A request that is sound where names from lo on are free. -/
def RqOk (P : Program) (U : Univ T) (w0 : Frm) (M0 : Mem) (nt nid : Nat) (a : Act) (w : World) (o : Oper) (lo : Nat) (q : RQ T (Step T)) : Prop :=
  ∀ (s : St T) ρ M c, Rh8 U w0 M0 nt s nid a w ρ M → (∀ b, lo ≤ b → b < nid + 16 → ρ b = none) → q.run s = some c → c.conds.all id = true → ∀ x, c.call = some x →
    DK s (c.out x).2 ∧ OpOk P o a w (PostH U w0 M0 s nid ρ M (c.out x).1 (c.out x).2)

theorem rq_base (hU : UOk U) (hT : ∀ n F, Tb n = some F → SndE P U n F) (hm : U.hm = true) (lo : Nat) : RqOk P U w0 M0 nt nid a w o lo ((opQ P U Tb nid o.op).bind fun c => .pure c.fil) := by
  intro s ρ M c R _ h hc x hx
  obtain ⟨c0, h0, h1⟩ := RQ.bind_run h
  simp only [RQ.run, Option.some.injEq] at h1
  subst h1
  refine ⟨fun cs hcs => ⟨cs, ?_, fun _ h => h⟩, ?_⟩
  · show (s.puts (noPL (c0.out x).2)).blk PLB = _
    rw [blk_noPL, if_pos rfl]; exact hcs
  · have := (good_base hU hT R h0 hc hx).imp fun _ _ => PostH8.up
    unfold wsH at this
    rw [hm] at this
    exact this

theorem noIb_blk (s : St T) (ib : Nat) (ws : List (Nat × Blk T)) (b : Nat) : (s.puts (noIb ib ws)).blk b = if b = ib then s.blk b else (s.puts ws).blk b := blk_filter s ib ws b

theorem heapO_of {s : St T} {ws : List (Nat × Blk T)} {cs ds : List (Cell T)} (h1 : s.blk PLB = .mark cs) (h2 : (s.puts ws).blk PLB = .mark ds) : heapO cs (fndW PLB ws) = ds := by
  rw [fndW_blk] at h2
  cases hw : fndW PLB ws with
  | none => rw [hw, Option.getD_none, h1] at h2; cases h2; rfl
  | some k => rw [hw, Option.getD_some] at h2; rw [h2]; rfl

/-- The heap at the end of an operation whose operand was a handle. -/
def endH (h : Nat) (ds : List (Cell T)) : Blk T → List (Cell T)
  | .arr t ys => setc ds h (.arr t ys)
  | _ => ds
theorem expW_pl {s s1 : St T} {ib t h : Nat} {cs ds : List (Cell T)} {ws : List (Nat × Blk T)} (h1 : ib ≠ PLB) (hcs : s.blk PLB = .mark cs) (hj : ∀ j, h = j + 1 → cs[j]? = some (.arr t (rdc t cs h)))
    (g1 : s1.blk PLB = .mark (setc cs h .dead)) (g2 : (s1.puts ws).blk PLB = .mark ds) : (s.puts (expW ib t h cs ws)).blk PLB = .mark (endH h ds ((fndW ib ws).getD (.arr t (rdc t cs h)))) := by
  have e := heapO_of g1 g2
  unfold expW
  cases hw : fndW ib ws with
  | none =>
    cases hp : fndW PLB ws with
    | none =>
      simp only [Option.getD_none, endH]
      rw [hp] at e
      rw [fndW_blk, hp, Option.getD_none, hcs]
      have e' : setc cs h .dead = ds := e
      rw [← e']
      cases h with
      | zero => rfl
      | succ j =>
        simp only [setc, List.set_set]
        congr 1
        apply List.ext_getElem?
        intro i
        by_cases k : j = i
        · subst k; rw [List.getElem?_set_self (List.getElem?_eq_some_iff.1 (hj j rfl)).1, hj j rfl]
        · rw [List.getElem?_set_ne k]
    | some k =>
      rw [hp] at e
      simp only [Option.getD_none, endH]
      rw [puts_cons, blk_put1, if_pos rfl, e]
  | some k =>
    simp only [Option.getD_some]
    cases k <;> (simp only [endH]; rw [puts_cons, blk_put1, if_pos rfl, e])
theorem expW_ib {s : St T} {ib t h : Nat} {cs : List (Cell T)} {ws : List (Nat × Blk T)} (h1 : ib ≠ PLB) : (s.puts (expW ib t h cs ws)).blk ib = s.blk ib := by
  unfold expW
  cases hw : fndW ib ws with
  | none =>
    cases hp : fndW PLB ws with
    | none => simp only []; rw [fndW_blk, hw]; rfl
    | some k => simp only []; rw [puts_cons, blk_put1, if_neg (Ne.symm h1), noIb_blk, if_pos rfl]
  | some k => cases k <;> (simp only []; rw [puts_cons, blk_put1, if_neg (Ne.symm h1), noIb_blk, if_pos rfl])
theorem expW_oth {s : St T} {ib t h : Nat} {cs : List (Cell T)} {ws : List (Nat × Blk T)} {b : Nat} (k1 : b ≠ ib) (k2 : b ≠ PLB) : (s.puts (expW ib t h cs ws)).blk b = (s.puts ws).blk b := by
  unfold expW
  cases hw : fndW ib ws with
  | none =>
    cases hp : fndW PLB ws with
    | none => rfl
    | some k => simp only []; rw [puts_cons, blk_put1, if_neg (Ne.symm k2), noIb_blk, if_neg k1]
  | some k => cases k <;> (simp only []; rw [puts_cons, blk_put1, if_neg (Ne.symm k2), noIb_blk, if_neg k1])

/-- An operation whose operand is a handle. -/
theorem imp_ok (hU : UOk U) {lo : Nat} {q : RQ T (Step T)} (hq : RqOk P U w0 M0 nt nid a w o (lo + 1) q) (R : Rh8 U w0 M0 nt s nid a w ρ M) (nx : ∀ b, lo ≤ b → b < nid + 16 → ρ b = none) (h8 : nid + 8 ≤ lo) (h16 : lo < nid + 16) (hm : U.hm = true) {t h p : Nat} {sv : SV T}
    (hsv : ∀ v, hv M h v → VR U (updR ρ lo v) M sv (a.tmps.getD p undef))
    (hr : (impQ lo q p t h sv).run s = some c) (hc : c.conds.all id = true) {x : c.X} (hx : c.call = some x) :
    DK s (c.out x).2 ∧ OpOk P o a w (PostH U w0 M0 s nid ρ M (c.out x).1 (c.out x).2) := by
  unfold impQ at hr
  cases hn : Nat.beq lo PLB || Nat.beq lo MKB with
  | true => rw [hn] at hr; cases hr
  | false =>
  rw [hn] at hr
  obtain ⟨n1, n2⟩ := Bool.or_eq_false_iff.1 hn
  have h1 : lo ≠ PLB := fun e => by rw [(beq_iff _ _).2 e] at n1; cases n1
  have h2 : lo ≠ MKB := fun e => by rw [(beq_iff _ _).2 e] at n2; cases n2
  simp only [RQ.run] at hr
  cases hcs : s.blk PLB with
  | dead => rw [hcs] at hr; cases hr
  | cells t' ys => rw [hcs] at hr; cases hr
  | arr t' ys => rw [hcs] at hr; cases hr
  | frz t' ys => rw [hcs] at hr; cases hr
  | mark cs =>
  rw [hcs] at hr
  obtain ⟨c, g0, g1⟩ := RQ.bind_run hr
  simp only [RQ.run, Option.some.injEq] at g1
  subst g1
  rw [RQ.wB_run, RQ.wB_run, RQ.wT_run] at g0
  simp only [List.all_cons, Bool.and_eq_true, id] at hc
  obtain ⟨v, hv, hj, hib, R1⟩ := imp_rh R nx h8 h16 hm hcs hc.1 h1 h2 hsv
  obtain ⟨dk, ok⟩ := hq _ _ _ c R1 (fun b b1 b2 => by unfold updR; rw [if_neg (by omega)]; exact nx b (by omega) b2) g0 hc.2 x hx
  generalize hs1 : impS s lo p t h cs sv = s1 at dk ok g0
  have b1 : ∀ b, s1.blk b = if lo = b then .arr t (rdc t cs h) else if PLB = b then .mark (setc cs h .dead) else s.blk b := fun b => by rw [← hs1]; exact blk_puts2 ..
  have g1 : s1.blk PLB = .mark (setc cs h .dead) := by rw [b1, if_neg h1, if_pos rfl]
  obtain ⟨ds, g2, dk⟩ := dk _ g1
  simp only at hx ⊢
  generalize hws : (c.out x).2 = ws at g2 ok
  have epl := expW_pl h1 hcs hj g1 g2
  have dm : s.blk lo = .dead ∨ ∃ ds, s.blk lo = .mark ds := by
    rcases R.mr.blk lo with d | d | ⟨u, hu, _⟩
    · exact .inl d
    · exact .inr d
    · rw [hib] at hu; cases hu
  have F2 : (s1.puts ws).blk lo = (fndW lo ws).getD (.arr t (rdc t cs h)) := by rw [fndW_blk, b1, if_pos rfl]
  have F3 : ∀ b, b ≠ lo → b ≠ PLB → (s1.puts ws).blk b = (s.puts ws).blk b := fun b k1 k2 =>
    blk_puts_congr (by rw [b1, if_neg (Ne.symm k1), if_neg (Ne.symm k2)]) ws
  refine ⟨fun cs0 k => ?_, ok.imp fun v' w' ⟨ρ', M', hρ, hM, hf, mr, hx', hvr⟩ => ?_⟩
  · rw [hcs] at k
    cases k
    refine ⟨_, epl, fun j hd => ?_⟩
    cases h with
    | zero =>
      have : ds[j]? = some .dead := dk j hd
      cases (fndW lo ws).getD (.arr t (rdc t cs 0)) <;> exact this
    | succ j' =>
      have hne : j' ≠ j := fun e => by subst e; rw [hj j' rfl] at hd; cases hd
      have : ds[j]? = some .dead := dk j (by simp only [setc]; rw [List.getElem?_set_ne hne]; exact hd)
      cases (fndW lo ws).getD (.arr t (rdc t cs (j' + 1))) <;> first | exact this | (simp only [endH, setc]; rw [List.getElem?_set_ne hne]; exact this)
  · have hρib : ρ' lo = some v := hρ _ _ (by simp [updR])
    have hpv : Sx.hv M' h v := by
      cases h with
      | zero => exact hv
      | succ j => exact hM.hp _ _ hv
    have fin : ∀ G : Nat → Blk T, MR U w0 (M0.wh M') G ρ' M' w' → HX U w0 M0 G ρ' M' w' → G PLB = .mark (endH h ds ((fndW lo ws).getD (.arr t (rdc t cs h)))) → (∀ b, b ≠ lo → b ≠ PLB → G b = (s.puts ws).blk b) →
        MR U w0 (M0.wh M') (s.puts (expW lo t h cs ws)).blk ρ' M' w' ∧ HX U w0 M0 (s.puts (expW lo t h cs ws)).blk ρ' M' w' := by
      intro G m1 x1 g1 g3
      have e3 : ∀ b, b ≠ lo → b ≠ PLB → (s.puts (expW lo t h cs ws)).blk b = (s.puts ws).blk b := fun b k1 k2 => expW_oth k1 k2
      have e2 : (s.puts (expW lo t h cs ws)).blk lo = s.blk lo := expW_ib h1
      refine ⟨m1.env fun b => ?_, x1.env (fun cs' k1 k2 => ?_) fun b u g k1 k2 k3 => ?_⟩
      · by_cases k : b = lo
        · subst k; exact .inr ⟨h2, e2 ▸ dm⟩
        · by_cases k' : b = PLB
          · subst k'; exact .inl (epl.trans g1.symm)
          · exact .inl ((e3 b k k').trans (g3 b k k').symm)
      · refine ⟨epl.trans (g1.symm.trans k1), ?_⟩
        rw [e3 MKB (Ne.symm h2) (by decide), ← g3 MKB (Ne.symm h2) (by decide)]; exact k2
      · by_cases k : b = lo
        · subst k
          rw [e2] at k1
          rcases dm with e2 | ⟨_, e2⟩ <;> (rw [e2] at k1; cases k1)
        · by_cases k' : b = PLB
          · subst k'; rw [epl] at k1; cases k1
          · exact ⟨b, u, by rw [g3 b k k', ← e3 b k k']; exact k1, k2, k3⟩
    have ends : MR U w0 (M0.wh M') (s.puts (expW lo t h cs ws)).blk ρ' M' w' ∧ HX U w0 M0 (s.puts (expW lo t h cs ws)).blk ρ' M' w' := by
      cases h with
      | zero =>
        refine fin _ mr hx' (g2.trans ?_) F3
        cases (fndW lo ws).getD (.arr t (rdc t cs 0)) <;> rfl
      | succ j =>
        have dj : ds[j]? = some .dead := dk j (by simp only [setc]; exact List.getElem?_set_self (List.getElem?_eq_some_iff.1 (hj j rfl)).1)
        cases hk : (fndW lo ws).getD (.arr t (rdc t cs (j + 1))) with
        | arr t' ys =>
          obtain ⟨m1, x1⟩ := gh_exp hU mr hx' hm g2 dj hρib hpv (by rw [F2]; exact hk) h2
          refine fin _ m1 x1 ?_ (fun b k1 k2 => ?_)
          · rw [blk_puts2, if_neg h1, if_pos rfl, hk]; rfl
          · rw [blk_puts2, if_neg (Ne.symm k1), if_neg (Ne.symm k2)]; exact F3 b k1 k2
        | dead => exact fin _ mr hx' (by rw [hk]; exact g2) F3
        | mark ds' => exact fin _ mr hx' (by rw [hk]; exact g2) F3
        | cells t' ys => exact fin _ mr hx' (by rw [hk]; exact g2) F3
        | frz t' ys => exact fin _ mr hx' (by rw [hk]; exact g2) F3
    refine ⟨ρ', M', (LeR.upd hib).trans hρ, hM, fun b hb hn => hf b hb ?_, ends.1, ends.2, hvr.exp hρib hpv⟩
    unfold updR
    rw [if_neg (fun e => hb ⟨by omega, by omega⟩)]
    exact hn

theorem RqOk.up {lo lo' : Nat} {q : RQ T (Step T)} (h : RqOk P U w0 M0 nt nid a w o lo' q) (k : lo ≤ lo') : RqOk P U w0 M0 nt nid a w o lo q :=
  fun s ρ M c R nx => h s ρ M c R fun b b1 b2 => nx b (by omega) b2

theorem impL_ok (hU : UOk U) (hT : ∀ n F, Tb n = some F → SndE P U n F) (hm : U.hm = true) : ∀ (l : List Nat) (lo : Nat), nid + 8 ≤ lo → lo + l.length ≤ nid + 16 → RqOk P U w0 M0 nt nid a w o lo (impL (opQ P U Tb nid o.op) l lo)
  | [], lo, _, _ => rq_base hU hT hm lo
  | p :: r, lo, h8, h16 => by
    have ih := impL_ok hU hT hm r (lo + 1) (by omega) (by simp at h16; omega)
    intro s ρ M c R nx h hc x hx
    have hlt : lo < nid + 16 := by simp at h16; omega
    simp only [impL, RQ.run] at h
    have hv := R.tm p
    cases hg : s.get p with
    | hptr hh t i off =>
      rw [hg] at h hv
      refine imp_ok hU ih R nx h8 hlt hm (fun v e => ?_) h hc hx
      generalize a.tmps.getD p undef = u at hv
      cases hv with
      | hptr j' g n cp _ _ _ hp =>
        have e' : M.hp j' = some v := e
        rw [hp] at e'; cases e'
        exact .eptr _ g n cp _ _ _ (by simp [updR])
    | hnd t hh =>
      rw [hg] at h hv
      refine imp_ok hU ih R nx h8 hlt hm (fun v e => ?_) h hc hx
      generalize a.tmps.getD p undef = u at hv
      cases hv with
      | hnd0 =>
        cases e
        exact .own _ none 0 0 (by simp [updR])
      | hnd _ j' A n cp hp =>
        have e' : M.hp j' = some v := e
        rw [hp] at e'; cases e'
        exact .own _ A n cp (by simp [updR])
    | _ =>
      rw [hg] at h
      exact ih.up (Nat.le_succ lo) s ρ M c R nx h hc x hx
end
end Go.Sx
