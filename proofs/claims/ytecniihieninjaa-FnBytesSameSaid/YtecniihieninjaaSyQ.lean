/- An evaluator of the model's code over symbolic values, and its soundness: part 22. No condition. -/
import Derived.Test.YtecniihieninjaaSyPd
set_option linter.unusedVariables false
set_option linter.unusedSimpArgs false
namespace Go.Sx
open Go.RowKit
variable {T : Nat → Type} {U : Univ T} {P : Program}

section
variable {w0 : Frm} {M0 : Mem} {nt nid : Nat} {s s' : St T} {a : Act} {w : World} {ρ ρ' : Nat → Option Value} {M : Mem}

theorem idx_some {b : Nat} : ∀ {l : List Nat} {n i : Nat}, idx b l n = some i → n ≤ i ∧ l[i - n]? = some b
  | [], n, i, h => by cases h
  | c :: l, n, i, h => by
    simp only [idx] at h
    split at h
    · rename_i hb
      cases h
      have := beq_eq hb
      subst this
      exact ⟨Nat.le_refl _, by simp⟩
    · obtain ⟨h1, h2⟩ := idx_some h
      exact ⟨by omega, by rw [show i - n = (i - (n + 1)) + 1 by omega, List.getElem?_cons_succ]; exact h2⟩

theorem idx_none {b : Nat} : ∀ {l : List Nat} {n : Nat}, idx b l n = none → ∀ i : Nat, l[i]? ≠ some b
  | [], n, _, i => by simp
  | c :: l, n, h, i => by
    simp only [idx] at h
    split at h
    · cases h
    · rename_i hb
      cases i with
      | zero =>
        intro e
        simp at e
        subst e
        simp at hb
      | succ i => rw [List.getElem?_cons_succ]; exact idx_none h i

theorem nodup_ids : ∀ {l : List Nat}, nodupB l = true → ∀ i j b : Nat, l[i]? = some b → l[j]? = some b → i = j
  | [], _, i, j, b, h, _ => by simp at h
  | c :: l, h, i, j, b, hi, hj => by
    simp only [nodupB] at h
    split at h
    · cases h
    · rename_i hn
      cases i with
      | zero =>
        cases j with
        | zero => rfl
        | succ j =>
          simp at hi
          subst hi
          rw [List.getElem?_cons_succ] at hj
          exact absurd hj (idx_none hn j)
      | succ i =>
        cases j with
        | zero =>
          simp at hj
          subst hj
          rw [List.getElem?_cons_succ] at hi
          exact absurd hi (idx_none hn i)
        | succ j =>
          rw [List.getElem?_cons_succ] at hi hj
          rw [nodup_ids h i j b hi hj]

def rhoOf (ids : List Nat) (ρ : Nat → Option Value) : Nat → Option Value := fun i => match ids[i]? with
  | some b => ρ b
  | none => none

theorem ren_ids (ids : List Nat) (ρ : Nat → Option Value) : Ren (fun b => idx b ids 0) ρ (rhoOf ids ρ) := by
  intro b c v h hv
  obtain ⟨_, h2⟩ := idx_some h
  simp only [rhoOf]
  rw [Nat.sub_zero] at h2
  rw [h2]
  exact hv

theorem look_keep (σ : Nat → Option Nat) (s : St T) (t : Nat) : ∀ keep : List Nat, look .any t (keep.map fun t => (t, rn σ (s.get t))) = rn σ (s.get t) ∨ look .any t (keep.map fun t => (t, rn σ (s.get t))) = .any
  | [] => .inr rfl
  | k :: keep => by
    simp only [List.map_cons]
    rw [look_put]
    split
    · rename_i e; subst e; exact .inl rfl
    · exact look_keep σ s t keep

theorem look_canonE (ids : List Nat) (env : List (Nat × Blk T)) (i : Nat) : ∀ (l : List Nat) (n : Nat), look .dead i (canonE ids env l n) = if n ≤ i then (match l[i - n]? with | some b => renBlk ids (look .dead b env) | none => .dead) else .dead
  | [], n => by simp [canonE, look]
  | b :: l, n => by
    simp only [canonE]
    have : ∀ (x : Blk T) (r : List (Nat × Blk T)), look .dead i ((n, x) :: r) = if n = i then x else look .dead i r := by
      intro x r
      simp only [look]
      by_cases h : n = i
      · subst h; simp
      · have : Nat.beq n i = false := by
          cases hb : Nat.beq n i
          · rfl
          · exact absurd (Nat.eq_of_beq_eq_true hb) h
        rw [this, if_neg h]
    rw [this, look_canonE ids env i l (n + 1)]
    by_cases h : n = i
    · subst h; simp
    · rw [if_neg h]
      by_cases h2 : n ≤ i
      · rw [if_pos (by omega), if_pos h2, show i - n = (i - (n + 1)) + 1 by omega, List.getElem?_cons_succ]
      · rw [if_neg (by omega), if_neg h2]

/-- A state's relation to the machine's; the names from its 'nb' on are free. -/
structure Ra (U : Univ T) (w0 : Frm) (M0 : Mem) (nt : Nat) (s : St T) (a : Act) (w : World) (ρ : Nat → Option Value) (M : Mem) : Prop where
  rc : Rc U w0 M0 nt s a w ρ M
  nw : ∀ b, s.nb ≤ b → ρ b = none

theorem preB_get : ∀ (n k : Nat) (l : List Nat), preB n k l = true → ∀ i, i < n → l[i]? = some (k + i)
  | 0, _, _, _, i, hi => by omega
  | n + 1, k, b :: r, h, i, hi => by
    simp only [preB, Bool.and_eq_true] at h
    have := beq_eq h.1
    subst this
    cases i with
    | zero => simp
    | succ i =>
      rw [List.getElem?_cons_succ, preB_get n (b + 1) r h.2 i (by omega)]
      congr 1
      omega
  | _ + 1, _, [], h, _, _ => by simp [preB] at h

theorem look_kpM (k : Nat) (env l : List (Nat × Blk T)) (i : Nat) : (∃ cs, look .dead i env = .mark cs ∧ look .dead i (kpM k env l) = .mark cs) ∨ look .dead i (kpM k env l) = look .dead i l := by
  unfold kpM
  split
  · rename_i cs hm
    by_cases e : i = k
    · subst e
      exact .inl ⟨cs, hm, by simp [look]⟩
    · refine .inr ?_
      have : Nat.beq k i = false := by
        cases hb : Nat.beq k i
        · rfl
        · exact absurd (Nat.eq_of_beq_eq_true hb).symm e
      simp only [look, this]
  · exact .inr rfl
theorem look_mkE (env l : List (Nat × Blk T)) (i : Nat) : (∃ cs, look .dead i env = .mark cs ∧ look .dead i (mkE env l) = .mark cs) ∨ look .dead i (mkE env l) = look .dead i l := by
  unfold mkE
  rcases look_kpM MKB env (kpM PLB env l) i with h | h
  · exact .inl h
  · rw [h]; exact look_kpM PLB env l i

theorem canon_sound (hU : UOk U) {nl : Nat} (hp : w0.pin.length ≤ nl) {keep : List Nat} (R : Rc U w0 M0 nt s a w ρ M) (h : canon nl keep s = some s') : ∃ ρ', Ra U w0 M0 nt s' a w ρ' M := by
  unfold canon at h
  generalize metL s.env 3 (keep.map s.get) (List.range nl) = ids at h
  simp only at h
  split at h
  · rename_i hnd
    obtain ⟨hnd, hpre⟩ := Bool.and_eq_true_iff.1 hnd
    simp only [Option.some.injEq] at h
    subst h
    have hpin : ∀ i v, w0.pin[i]? = some v → rhoOf ids ρ i = some v := by
      intro i v hi
      have hil : i < nl := Nat.lt_of_lt_of_le (List.getElem?_eq_some_iff.1 hi).1 hp
      simp only [rhoOf, preB_get nl 0 ids hpre i hil]
      rw [Nat.zero_add]
      exact R.mr.pin i v hi
    have hblk : ∀ i, (∃ cs, s.blk i = .mark cs ∧ (St.blk (⟨keep.map fun t => (t, rn (fun b => idx b ids 0) (s.get t)), mkE s.env (canonE ids s.env ids 0), ids.length⟩ : St T) i) = .mark cs) ∨ (St.blk (⟨keep.map fun t => (t, rn (fun b => idx b ids 0) (s.get t)), mkE s.env (canonE ids s.env ids 0), ids.length⟩ : St T) i) = match ids[i]? with | some b => renBlk ids (s.blk b) | none => .dead := by
      intro i
      have old : look .dead i (canonE ids s.env ids 0) = match ids[i]? with | some b => renBlk ids (s.blk b) | none => .dead := by
        rw [look_canonE, if_pos (Nat.zero_le _), Nat.sub_zero]
        rfl
      show (∃ cs, _ ∧ look .dead i (mkE s.env (canonE ids s.env ids 0)) = _) ∨ look .dead i (mkE s.env (canonE ids s.env ids 0)) = _
      rcases look_mkE s.env (canonE ids s.env ids 0) i with ⟨cs, h1, h2⟩ | h
      · exact .inl ⟨cs, h1, h2⟩
      · exact .inr (h.trans old)
    refine ⟨rhoOf ids ρ, ⟨⟨⟨R.mr.fr, hpin, R.mr.m0, R.mr.mo, R.mr.sub, fun i => ?_, ?_, R.mr.bpw, R.mr.bpo, R.mr.kp, fun cs hm => ?_, R.mr.e0, R.mr.hpo⟩, fun t => ?_, R.sz, R.df, R.hx.env (fun cs h1 h2 => ?_) fun b v g h1 h2 h3 => ?_⟩, fun b hb => ?_⟩⟩
    · rcases hblk i with ⟨cs, _, e⟩ | e
      · exact .inr (.inl ⟨cs, e⟩)
      rw [e]
      cases hi : ids[i]? with
      | none => exact .inl rfl
      | some b =>
        simp only [rhoOf, hi]
        rcases R.mr.blk b with d | ⟨_, d⟩ | ⟨v, hv, hB⟩
        · rw [d]; exact .inl rfl
        · rw [d]; exact .inl rfl
        · refine .inr (.inr ⟨v, hv, ?_⟩)
          cases hk : s.blk b with
          | dead => trivial
          | mark cs => exact trivial
          | cells t cs =>
            rw [hk] at hB
            obtain ⟨g, vs, e, h1, h2, h3, h4⟩ := hB
            exact ⟨g, vs, e, h1, h2, ⟨by simpa using h3.len, h3.one, fun j k1 k2 => (by simp only [List.getElem_map]; exact (h3.at_ j (by simpa using k1) k2).rn1 hU (ren_ids ids ρ))⟩, h4⟩
          | arr t xs =>
            rw [hk] at hB
            obtain ⟨cl, h1, h2, h3⟩ := hB
            exact ⟨cl, h1, h2.nr_ hU, h3⟩
          | frz t xs =>
            rw [hk] at hB
            exact ⟨hB.1, hB.2.nr1 hU rfl⟩
    · intro i j v v' g hi hj hv hv' hg hg'
      rcases hblk i with ⟨_, _, e⟩ | e
      · rw [e] at hi; cases hi
      rw [e] at hi
      rcases hblk j with ⟨_, _, e⟩ | e
      · rw [e] at hj; cases hj
      rw [e] at hj
      simp only [rhoOf] at hv hv'
      cases ei : ids[i]? with
      | none => rw [ei] at hi; cases hi
      | some b =>
        cases ej : ids[j]? with
        | none => rw [ej] at hj; cases hj
        | some b' =>
          rw [ei] at hi hv
          rw [ej] at hj hv'
          have live : ∀ b, (renBlk ids (s.blk b)).live = true → (s.blk b).live = true := by
            intro b h
            cases hk : s.blk b <;> rw [hk] at h <;> first | rfl | exact h
          have := R.mr.inj b b' v v' g (live _ hi) (live _ hj) hv hv' hg hg'
          subst this
          exact nodup_ids hnd i j b ei ej
    · rcases hblk MKB with ⟨ds, e, _⟩ | e
      · exact R.mr.mrk ds e
      · rw [hm] at e
        cases hi : ids[MKB]? with
        | none => rw [hi] at e; cases e
        | some b =>
          rw [hi] at e
          change Blk.mark cs = renBlk ids (s.blk b) at e
          cases hk : s.blk b <;> rw [hk] at e <;> cases e
    · rcases look_keep (fun b => idx b ids 0) s t keep with e | e
      · show VR U _ M (look .any t _) _
        rw [e]
        exact (R.tm t).rn hU (ren_ids ids ρ)
      · show VR U _ M (look .any t _) _
        rw [e]
        exact .any _
    · refine ⟨?_, ?_⟩
      · show look .dead PLB (kpM MKB s.env (kpM PLB s.env _)) = _
        have e1 : look .dead PLB (kpM PLB s.env (canonE ids s.env ids 0)) = .mark cs := by
          unfold kpM
          rw [show look .dead PLB s.env = .mark cs from h1]
          simp [look]
        rcases look_kpM MKB s.env (kpM PLB s.env (canonE ids s.env ids 0)) PLB with ⟨ds, k1, k2⟩ | k
        · rw [show look .dead PLB s.env = .mark cs from h1] at k1
          rw [k2, ← k1]
        · exact k.trans e1
      · rcases hblk MKB with ⟨ds, k1, _⟩ | k
        · rw [k1] at h2; cases h2
        · rw [k]
          cases hi : ids[MKB]? with
          | none => rfl
          | some b => cases hk : s.blk b <;> simp [hk, renBlk, isMark]
    · rcases hblk b with ⟨ds, _, k⟩ | k
      · rw [k] at h1; cases h1
      · rw [k] at h1
        simp only [rhoOf] at h2
        cases hi : ids[b]? with
        | none => rw [hi] at h1; cases h1
        | some b0 =>
          rw [hi] at h1 h2
          refine ⟨b0, v, ?_, h2, h3⟩
          change (renBlk ids (s.blk b0)).live = true at h1
          cases hk : s.blk b0 <;> rw [hk] at h1 <;> first | rfl | exact h1
    · simp only [rhoOf]
      rw [List.getElem?_eq_none hb]
  · cases h
end

section
variable {U : Univ T} {w0 : Frm} {M0 M : Mem} {nt : Nat} {s : St T} {a : Act} {w : World} {ρ : Nat → Option Value}

theorem VR.rnH1 {b t j : Nat} {u : Value} (hρ : ρ b = some u) (hp : M.hp j = some u) {x : SV T} {v : Value} (k : VR U ρ M x v) : VR U ρ M (rnH1 b t (j + 1) x) v := by
  cases x with
  | own c =>
    simp only [Sx.rnH1]
    split
    · rename_i e
      have := (beq_iff c b).1 e
      subst this
      cases k with
      | own _ A n cp h1 =>
        rw [hρ] at h1; cases h1
        exact .hnd t j A n cp hp
    · exact k
  | eptr c t' i o =>
    simp only [Sx.rnH1]
    split
    · rename_i e
      have := (beq_iff c b).1 e
      subst this
      cases k with
      | eptr _ g n cp _ _ _ h1 =>
        rw [hρ] at h1; cases h1
        exact .hptr j g n cp t' i o hp
    · exact k
  | _ => exact k
theorem VR.rnH2 {b t j : Nat} {u : Value} (hρ : ρ b = some u) (hp : M.hp j = some u) {x : SV T} {v : Value} (k : VR U ρ M x v) : VR U ρ M (rnH2 b t (j + 1) x) v := by
  cases x with
  | agg l =>
    cases k with
    | agg _ vs hl hf hv => exact .agg _ vs (by simpa using hl) hf fun i h1 h2 => (by simp only [List.getElem_map]; exact (hv i (by simpa using h1) h2).rnH1 hρ hp)
  | _ => exact VR.rnH1 (t := t) hρ hp k
theorem VR.rnH {b t j : Nat} {u : Value} (hρ : ρ b = some u) (hp : M.hp j = some u) {x : SV T} {v : Value} (k : VR U ρ M x v) : VR U ρ M (rnH b t (j + 1) x) v := by
  cases x with
  | tup l =>
    cases k with
    | tup _ vs hl hv => exact .tup _ vs (by simpa using hl) fun i h1 h2 => (by simp only [List.getElem_map]; exact (hv i (by simpa using h1) h2).rnH2 hρ hp)
  | _ => exact VR.rnH2 (t := t) hρ hp k

theorem rnHB_live (b t h : Nat) (k : Blk T) : (rnHB b t h k).live = k.live := by cases k <;> rfl
theorem rnHB_mark (b t h : Nat) (k : Blk T) : isMark (rnHB b t h k) = isMark k := by cases k <;> rfl
theorem rnHB_dead {b t h : Nat} {k : Blk T} (e : k = .dead) : rnHB b t h k = .dead := by subst e; rfl
theorem rnHB_eq {b t h : Nat} {k : Blk T} {cs : List (Cell T)} (e : rnHB b t h k = .mark cs) : k = .mark cs := by
  cases k <;> first | exact e | (simp only [rnHB] at e; cases e)

theorem MR.rnH {e : Nat → Blk T} (m : MR U w0 M0 e ρ M w) {b t j : Nat} {u : Value} (hρ : ρ b = some u) (hp : M.hp j = some u) : MR U w0 M0 (fun x => rnHB b t (j + 1) (e x)) ρ M w where
  fr := m.fr
  pin := m.pin
  m0 := m.m0
  mo := m.mo
  sub := m.sub
  blk := fun x => by
    rcases m.blk x with d | ⟨cs, d⟩ | ⟨v, hv, hB⟩
    · exact .inl (rnHB_dead d)
    · exact .inr (.inl ⟨cs, by simp only [d]; rfl⟩)
    · refine .inr (.inr ⟨v, hv, ?_⟩)
      cases hk : e x with
      | cells t' ks =>
        rw [hk] at hB
        obtain ⟨g, vs, h1, h2, h3, h4, h5⟩ := hB
        exact ⟨g, vs, h1, h2, h3, ⟨by simpa using h4.len, h4.one, fun i k1 k2 => (by simp only [List.getElem_map]; exact (h4.at_ i (by simpa using k1) k2).rnH1 hρ hp)⟩, h5⟩
      | _ => rw [hk] at hB; exact hB
  inj := fun x x' v v' g h1 h2 => m.inj x x' v v' g (by rw [← rnHB_live]; exact h1) (by rw [← rnHB_live]; exact h2)
  bpw := m.bpw
  bpo := m.bpo
  kp := m.kp
  mrk := fun cs h => m.mrk cs (rnHB_eq h)
  e0 := m.e0
  hpo := m.hpo

theorem look_map {α β : Type} (f : α → β) (d : α) (n : Nat) : ∀ l : List (Nat × α), look (f d) n (l.map fun p => (p.1, f p.2)) = f (look d n l)
  | [] => rfl
  | (k, x) :: r => by
    simp only [List.map_cons, look]
    split
    · rfl
    · exact look_map f d n r

theorem absB_ok (hU : UOk U) (hm : U.hm = true) (R : Ra U w0 M0 nt s a w ρ M) (b : Nat) : ∃ M', Ra U w0 M0 nt (absB s b) a w ρ M' := by
  unfold absB
  split
  · exact ⟨M, R⟩
  rename_i hb0
  have hmk : b ≠ MKB := fun e => by rw [(beq_iff _ _).2 e] at hb0; cases hb0
  split
  · rename_i t xs hb
    split
    · rename_i cs hcs
      obtain ⟨v, hv, hle, m1, x1⟩ := gh_abs hU R.rc.mr R.rc.hx hm hcs hb hmk
      have hp : (M.more cs.length v).hp cs.length = some v := by show (if _ then _ else _) = _; rw [if_pos rfl]
      refine ⟨M.more cs.length v, ⟨?_, R.nw⟩⟩
      have ee : (St.blk (⟨s.tm.map fun p => (p.1, Sx.rnH b t (cs.length + 1) p.2), (PLB, .mark (cs ++ [.arr t xs])) :: (b, .dead) :: s.env.map fun p => (p.1, rnHB b t (cs.length + 1) p.2), s.nb⟩ : St T)) = fun x => rnHB b t (cs.length + 1) (plE (fun x => if b = x then .dead else s.blk x) (cs ++ [.arr t xs]) x) := funext fun x => by
        show look Blk.dead x _ = _
        simp only [look]
        unfold plE
        by_cases k : PLB = x
        · rw [if_pos k, (beq_iff _ _).2 k]; rfl
        · have k' : Nat.beq PLB x = false := by
            cases hbb : Nat.beq PLB x
            · rfl
            · exact absurd ((beq_iff _ _).1 hbb) k
          rw [if_neg k, k']
          simp only
          by_cases k2 : b = x
          · rw [if_pos k2, (beq_iff _ _).2 k2]; rfl
          · have k3 : Nat.beq b x = false := by
              cases hbb : Nat.beq b x
              · rfl
              · exact absurd ((beq_iff _ _).1 hbb) k2
            rw [if_neg k2, k3]
            exact look_map (rnHB b t (cs.length + 1)) .dead x s.env
      refine ⟨ee ▸ m1.rnH hv hp, fun u => ?_, R.rc.sz, R.rc.df, ?_⟩
      · show VR U ρ _ (look .any u _) _
        have := look_map (Sx.rnH b t (cs.length + 1)) (.any : SV T) u s.tm
        rw [show Sx.rnH b t (cs.length + 1) (.any : SV T) = .any from rfl] at this
        rw [this]
        exact ((R.rc.tm u).mono (.refl _) hle).rnH hv hp
      · rw [ee]
        exact x1.env (fun ds k1 k2 => ⟨by simp only [k1]; rfl, by simp only [rnHB_mark]; exact k2⟩) fun b' u g k1 k2 k3 => ⟨b', u, by simpa only [rnHB_live] using k1, k2, k3⟩
    · exact ⟨M, R⟩
  · exact ⟨M, R⟩

theorem Ra.abs (hU : UOk U) (R : Ra U w0 M0 nt s a w ρ M) : ∃ M', Ra U w0 M0 nt (absSt U s) a w ρ M' := by
  unfold absSt
  split
  · exact ⟨M, R⟩
  · rename_i hm
    generalize (arrs s.env).reverse = l
    induction l generalizing s M with
    | nil => exact ⟨M, R⟩
    | cons b l ih =>
      obtain ⟨M1, R1⟩ := absB_ok hU hm R b
      exact ih R1
end

section
variable {R : Type} {F : Fn T R} {w0 : Frm} {M0 : Mem}

def Done (F : Fn T R) (w0 : Frm) (M0 : Mem) (r : R) (a : Act) (w : World) : Prop := ∃ s ρ M, Ra F.U w0 M0 F.nt s a w ρ M ∧ finS F s = some r

def Reach (F : Fn T R) (w0 : Frm) (M0 : Mem) (r : R) (todo : List Item) (a : Act) (w : World) : Prop :=
  ∀ (b : Frame) (cs : List Frame), ∃ a' w' todo', Done F w0 M0 r a' w' ∧ Steps F.P (lone (b.at a todo) cs w) (lone { b.at a' todo' with mode := .returning } cs w')

theorem Reach.head {r : R} {todo todo' : List Item} {a a' : Act} {w w' : World} (h : ∀ (b : Frame) (cs : List Frame), Steps F.P (lone (b.at a todo) cs w) (lone (b.at a' todo') cs w')) (k : Reach F w0 M0 r todo' a' w') : Reach F w0 M0 r todo a w := by
  intro b cs
  obtain ⟨a2, w2, t2, hd, hs⟩ := k b cs
  exact ⟨a2, w2, t2, hd, (h b cs).trans hs⟩

theorem region_sound (hF : FnOk F) {ops : Array Oper} {id : Nat} {d : Bool} {s : St T} {a : Act} {w : World} {ρ : Nat → Option Value} {M : Mem} {r : R} {k : St T → Option R} {todo : List Item}
    (h : evOps F ops s.nb ops.toList 0 s [] (fun s' fs => match d && !drawOk ops fs with | true => none | false => k ⟨s'.tm, s'.env, s.nb + 16 * ops.size⟩) = some r) (R : Ra F.U w0 M0 F.nt s a w ρ M)
    (hk : ∀ s' a' w' ρ' M', k s' = some r → Ra F.U w0 M0 F.nt s' a' w' ρ' M' → Reach F w0 M0 r todo a' w') : Reach F w0 M0 r (.code (.region id ops d) :: todo) a w := by
  have key : ∀ s1 fs, (match d && !drawOk ops fs with | true => none | false => k ⟨s1.tm, s1.env, s.nb + 16 * ops.size⟩) = some r → (d = true → drawOk ops fs = true) ∧
      ∀ (s' : St T) a' w' ρ' M', SEq s' s1 → Rc F.U w0 M0 F.nt s' a' w' ρ' M' → (∀ b, s.nb + 16 * ops.size ≤ b → ρ' b = none) → Reach F w0 M0 r todo a' w' := by
    intro s1 fs h
    split at h
    · cases h
    · rename_i hb
      refine ⟨fun hd => by subst hd; simpa using hb, fun s' a' w' ρ' M' e hr hn => hk _ _ _ _ _ h ⟨(hr.congr e).congr ⟨fun _ => rfl, fun _ => rfl⟩, hn⟩⟩
  have W : (Code.region id ops d).wp F.P (fun e a' w' => e = .normal ∧ Reach F w0 M0 r todo a' w') a w := by
    cases d with
    | true =>
      exact draw_sound (w0 := w0) (M0 := M0) hF hF.mix h R.rc R.nw fun s1 fs h => ⟨(key s1 fs h).1 rfl, fun s' a' w' ρ' M' e1 e2 e3 => ⟨rfl, (key s1 fs h).2 s' a' w' ρ' M' e1 e2 e3⟩⟩
    | false =>
      obtain ⟨L, s', s1', e1, e2, e3, e4, e5⟩ := trace h (.refl _) (fun j => by simp)
      have kk := (key s1' ([] ++ L.map (·.f)) e2).2
      have hlen : L.length = ops.size := by
        have := congrArg List.length e4
        simpa using this
      refine wp_region ?_
      have := ch_text (w0 := w0) (M0 := M0) (i := 0) (Q := fun e a' w' => e = .normal ∧ Reach F w0 M0 r todo a' w') (e := ops.size) hF e5 e3 (by rw [e4, hlen]; simp) (by omega) R.rc (by simpa using R.nw) (fun a' w' ρ' M' h1 h2 => ⟨rfl, kk s' a' w' ρ' M' e1 h1 h2⟩)
      rw [List.range_eq_range', ← hlen]
      exact this
  intro b cs
  obtain ⟨e, a', w', ⟨rfl, hr⟩, harr⟩ := W b todo cs
  obtain ⟨a2, w2, t2, hd, hs⟩ := hr b cs
  exact ⟨a2, w2, t2, hd, Steps.trans harr hs⟩

theorem evB_sound (hF : FnOk F) (hp : w0.pin.length ≤ F.nl) {G ih : List Item → St T → Option R} {r : R} (hG : ∀ todo s a w ρ M, G todo s = some r → Ra F.U w0 M0 F.nt s a w ρ M → Reach F w0 M0 r todo a w)
    (hih : ∀ todo s a w ρ M, ih todo s = some r → Ra F.U w0 M0 F.nt s a w ρ M → Reach F w0 M0 r todo a w) {todo : List Item} {s : St T} {a : Act} {w : World} {ρ : Nat → Option Value} {M : Mem}
    (h : evB F G ih todo s = some r) (R : Ra F.U w0 M0 F.nt s a w ρ M) : Reach F w0 M0 r todo a w := by
  unfold evB at h
  split at h
  · intro b cs; exact ⟨a, w, _, ⟨s, ρ, M, R, h⟩, .one step_end⟩
  · intro b cs; exact ⟨a, w, _, ⟨s, ρ, M, R, h⟩, .one step_ret⟩
  · exact .head (fun b cs => .one step_skip) (hih _ _ _ _ _ _ h R)
  · exact .head (fun b cs => .one step_label) (hih _ _ _ _ _ _ h R)
  · exact .head (fun b cs => .one step_inBlock) (hih _ _ _ _ _ _ h R)
  · exact .head (fun b cs => .one step_seq) (hih _ _ _ _ _ _ h R)
  · rename_i c x y k
    split at h
    · rename_i t ht
      have hc : a.eval c = .bool t := by
        cases c with
        | tmp d =>
          simp only at ht
          have := R.rc.tm d
          rw [ht] at this
          show a.tmps.getD d undef = _
          generalize a.tmps.getD d undef = dv at this
          cases this
          rfl
        | const v => simp only [SV.v.injEq] at ht; exact ht
        | global g => cases ht
        | func f => cases ht
      refine .head (fun b cs => .one (step_cond hc)) ?_
      cases t
      · exact hih _ _ _ _ _ _ h R
      · exact hih _ _ _ _ _ _ h R
    · cases h
  · exact .head (fun b cs => .one step_block) (hih _ _ _ _ _ _ h R)
  · exact .head (fun b cs => .one step_loop) (hih _ _ _ _ _ _ h R)
  · exact .head (fun b cs => .one step_inLoop) (hih _ _ _ _ _ _ h R)
  · rename_i id k
    split at h
    · rename_i k' hk
      exact .head (fun b cs => .one (step_exit hk)) (hih _ _ _ _ _ _ h R)
    · cases h
  · rename_i id ops d k
    split at h
    · split at h
      · rename_i s' hs'
        obtain ⟨ρ', R'⟩ := canon_sound hF.U hp R.rc hs'
        exact hG _ _ _ _ _ _ h R'
      · cases h
    · exact region_sound (k := fun s' => ih k (absSt F.U s')) hF h R fun s' a' w' ρ' M' h1 h2 => let ⟨_, h3⟩ := h2.abs hF.U; hih _ _ _ _ _ _ h1 h3
  · cases h

theorem ev_sound (hF : FnOk F) (hp : w0.pin.length ≤ F.nl) {G : List Item → St T → Option R} {r : R} (hG : ∀ todo s a w ρ M, G todo s = some r → Ra F.U w0 M0 F.nt s a w ρ M → Reach F w0 M0 r todo a w) :
    ∀ (n : Nat) {todo : List Item} {s : St T} {a : Act} {w : World} {ρ : Nat → Option Value} {M : Mem}, ev F G n todo s = some r → Ra F.U w0 M0 F.nt s a w ρ M → Reach F w0 M0 r todo a w
  | 0, todo, s, a, w, ρ, M, h, R => by cases h
  | n + 1, todo, s, a, w, ρ, M, h, R => evB_sound hF hp hG (fun todo s a w ρ M h R => ev_sound hF hp hG n h R) h R

theorem evFrom_sound (hF : FnOk F) (hp : w0.pin.length ≤ F.nl) {G : List Item → St T → Option R} {r : R} (hG : ∀ todo s a w ρ M, G todo s = some r → Ra F.U w0 M0 F.nt s a w ρ M → Reach F w0 M0 r todo a w) (n : Nat)
    {todo : List Item} {s : St T} {a : Act} {w : World} {ρ : Nat → Option Value} {M : Mem} (h : evFrom F G n todo s = some r) (R : Ra F.U w0 M0 F.nt s a w ρ M) : Reach F w0 M0 r todo a w := by
  unfold evFrom at h
  split at h
  · rename_i id ops d k
    exact region_sound (k := fun s' => ev F G n k (absSt F.U s')) hF h R fun s' a' w' ρ' M' h1 h2 => let ⟨_, h3⟩ := h2.abs hF.U; ev_sound hF hp hG n h1 h3
  · cases h

theorem evJ_sound (hF : FnOk F) (hp : w0.pin.length ≤ F.nl) (n : Nat) {r : R} : ∀ (k : Nat) {todo : List Item} {s : St T} {a : Act} {w : World} {ρ : Nat → Option Value} {M : Mem}, evJ F n k todo s = some r → Ra F.U w0 M0 F.nt s a w ρ M → Reach F w0 M0 r todo a w
  | 0, todo, s, a, w, ρ, M, h, R => by cases h
  | k + 1, todo, s, a, w, ρ, M, h, R => evFrom_sound hF hp (fun todo s a w ρ M h R => evJ_sound hF hp n k h R) n h R
end
end Go.Sx
