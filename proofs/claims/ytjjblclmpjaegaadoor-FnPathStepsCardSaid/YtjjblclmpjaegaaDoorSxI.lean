/- An evaluator of the model's code over symbolic values, and its soundness: part 7. No condition. -/
import Derived.Test.YtjjblclmpjaegaaDoorSxH
set_option linter.unusedVariables false
set_option linter.unusedSimpArgs false
namespace Go.Sx
open Go.RowKit
variable {T : Nat → Type} {U : Univ T} {P : Program}

section
variable {w0 : Frm} {M0 : Mem} {nt nid : Nat} {s : St T} {a : Act} {w : World} {ρ : Nat → Option Value} {M : Mem} {c : Step T} {o : Oper} {Tb : Calls_ T} {α : Type 1} {r : α}

theorem M_fresh (R : Rl U w0 M0 nt s nid a w ρ M) {g : Nat} (h : w.heap.size ≤ g) (o : Nat) : M g o = none := by
  cases hm : M g o with
  | none => rfl
  | some v =>
    have := World.block_lt_of_cell? w _ (R.mr.sub _ _ _ hm)
    simp at this
    omega

theorem own_block_lt {base t sz n : Nat} {v : Value} {cl : List Value} (h : w.ownsRow base t sz v n cl) {g : Nat} (hg : blockOf v = some g) : v.ownBlock = some g ∧ base ≤ g ∧ g < w.heap.size := by
  rcases h.2 with ⟨rfl, _⟩ | ⟨g', cap, cur, rfl, hb, hh, _⟩
  · cases hg
  · simp only [blockOf, Option.some.injEq] at hg
    subst hg
    exact ⟨rfl, hb, (Array.getElem?_eq_some_iff.1 hh).1⟩

theorem blk_put2 (s : St T) (b b2 : Nat) (k k2 : Blk T) (b' : Nat) : (s.puts [(b, k), (b2, k2)]).blk b' = if b = b' then k else if b2 = b' then k2 else s.blk b' := by
  have := blk_put1 (s.puts [(b2, k2)]) b k b'
  rw [blk_put1 s b2 k2] at this
  exact this

def deadL (b : Option Nat) : List (Nat × Blk T) := match b with | some b => [(b, .dead)] | none => []

/-- A row that has grown: the old one is dead. -/
theorem Post.grown (R : Rl U w0 M0 nt s nid a w ρ M) {b : Option Nat} {v v' : Value} {t : Nat} {zs : List (T t)} {cl : List Value} {w' : World}
    (hb : ∀ b', b = some b' → ρ b' = some v ∧ (s.blk b').live = true) (hn : b = none → v.ownBlock = none)
    (hM : ∀ g, v.ownBlock = some g → ∀ o, M g o = none) (hbase : ∀ g, v.ownBlock = some g → w0.own g) (hvb : blockOf v = v.ownBlock)
    (hown : w'.ownsRow 0 t (U.sz t) v' zs.length cl) (hcr : CR U ρ M (zs.flatMap (U.enc t)) cl) (hg : w.grownBy w' v.ownBlock) (hat : v'.ownBlock = v.ownBlock ∨ v'.ownBlock = some w.heap.size) :
    Post U w0 M0 s nid ρ M (.own nid) (deadL b ++ [(nid, .arr t zs)]) v' w' := by
  have hnid : ρ nid = none := R.nw nid (Nat.le_refl _) (by omega)
  have hle : LeR ρ (updR ρ nid v') := LeR.upd hnid
  have hblk : ∀ b', (s.puts (deadL b ++ [(nid, .arr t zs)])).blk b' = if b = some b' then .dead else if nid = b' then .arr t zs else s.blk b' := by
    intro b'
    cases b with
    | none => simp only [deadL, List.nil_append]; rw [blk_put1]; simp
    | some b1 => simp only [deadL, List.singleton_append]; rw [blk_put2]; simp
  have hne : ∀ b', b = some b' → b' ≠ nid := fun b' e h => by
    have := (hb b' e).1
    rw [h, hnid] at this
    cases this
  have hMv' : ∀ g, v'.ownBlock = some g → ∀ o, M g o = none := by
    intro g hg' o
    rcases hat with e | e
    · exact hM g (e ▸ hg') o
    · rw [e] at hg'
      cases hg'
      exact M_fresh R (Nat.le_refl _) o
  refine ⟨updR ρ nid v', M, hle, .refl _, fun b' h hb' => by unfold updR; rw [if_neg (by omega)]; exact hb', ?_, ?_⟩
  · refine R.mr.step (fun b' => b = some b' ∨ b' = nid) (R.mr.fr.grown hg hbase) hle (.refl _) (fun _ _ _ => rfl) ?_ ?_ ?_ ?_
    · intro g o u hu
      have hc := R.mr.sub _ _ _ hu
      refine hg.cell hc ?_
      intro e
      rw [hM g e.symm o] at hu
      cases hu
    · intro b' hb'
      refine ⟨?_, fun v1 g1 hl hv1 hg1 => ⟨hg.block g1 (R.mr.lt hl hv1 hg1).1 ?_, fun _ => rfl⟩⟩
      · rw [hblk, if_neg (fun e => hb' (.inl e)), if_neg (fun e => hb' (.inr e.symm))]
      · intro e
        cases hbb : b with
        | none => rw [hn hbb] at e; cases e
        | some b1 =>
          obtain ⟨h1, h2⟩ := hb b1 hbb
          have := R.mr.inj b' b1 v1 v g1 hl h2 hv1 h1 hg1 (by rw [hvb]; exact e.symm)
          subst this
          exact hb' (.inl hbb)
    · intro b' hb'
      by_cases e : b = some b'
      · exact .inl (by rw [hblk, if_pos e])
      · have e2 : b' = nid := hb'.resolve_left e
        subst e2
        refine .inr ⟨v', by simp [updR], ?_⟩
        rw [hblk, if_neg e, if_pos rfl]
        exact ⟨cl, hown, hcr.mono hle (.refl _), hMv', fun g hg' => by
          rcases hat with e | e
          · exact hbase g (e ▸ hg')
          · rw [e] at hg'
            cases hg'
            exact .inl R.mr.fr.size⟩
    · have key : ∀ b' v1 g, ((s.puts (deadL b ++ [(nid, .arr t zs)])).blk b').live = true → updR ρ nid v' b' = some v1 → blockOf v1 = some g →
          (b' = nid ∧ v'.ownBlock = some g) ∨ (b' ≠ nid ∧ b ≠ some b' ∧ (s.blk b').live = true ∧ ρ b' = some v1 ∧ g < w.heap.size) := by
        intro b' v1 g hl hv1 hg1
        rw [hblk] at hl
        by_cases e0 : b = some b'
        · rw [if_pos e0] at hl; cases hl
        · rw [if_neg e0] at hl
          by_cases e : b' = nid
          · refine .inl ⟨e, ?_⟩
            simp [updR, e] at hv1
            subst hv1
            exact (own_block_lt hown hg1).1
          · rw [if_neg (Ne.symm e)] at hl
            simp [updR, e] at hv1
            exact .inr ⟨e, e0, hl, hv1, (R.mr.lt hl hv1 hg1).1⟩
      have no : ∀ b' v1 g, v'.ownBlock = some g → b ≠ some b' → (s.blk b').live = true → ρ b' = some v1 → g < w.heap.size → blockOf v1 = some g → False := by
        intro b' v1 g e hne hl hv1 hlt hg1
        rcases hat with e2 | e2
        · rw [e2] at e
          cases hbb : b with
          | none => rw [hn hbb] at e; cases e
          | some b1 =>
            obtain ⟨h1, h2⟩ := hb b1 hbb
            have := R.mr.inj b' b1 v1 v g hl h2 hv1 h1 hg1 (by rw [hvb]; exact e)
            subst this
            exact hne hbb
        · rw [e2] at e
          simp only [Option.some.injEq] at e
          omega
      intro b1 b2 v1 v2 g h1 h2 e1 e2 g1 g2
      rcases key b1 v1 g h1 e1 g1 with ⟨x, y⟩ | ⟨x, n1, l1, r1, y⟩ <;> rcases key b2 v2 g h2 e2 g2 with ⟨x', y'⟩ | ⟨x', n2, l2, r2, y'⟩
      · rw [x, x']
      · exact (no b2 v2 g y n2 l2 r2 y' g2).elim
      · exact (no b1 v1 g y' n1 l1 r1 y g1).elim
      · exact R.mr.inj b1 b2 v1 v2 g l1 l2 r1 r2 g1 g2
  · obtain ⟨A, cap, e⟩ : ∃ A cap, v' = .slice A zs.length cap := by
      rcases hown.2 with ⟨rfl, h0⟩ | ⟨g, cap, cur, rfl, _⟩
      · exact ⟨none, 0, by rw [h0]⟩
      · exact ⟨_, _, rfl⟩
    subst e
    exact .own _ _ _ _ (by simp [updR])

theorem byOf_eq {t : Nat} {i : TypeInfo} (h : P.info? t = some i) : byOf P t = i.bytes := by simp [byOf, h]

/-- append, over what has been read. -/
theorem append_run (hU : UOk U) (R : Rl U w0 M0 nt s nid a w ρ M) {t te : Nat} {i : TypeInfo} {zc : List (SV T)} (hu : P.underlying t = some (.slice te)) (hi : P.info? te = some i) (hsz : i.size = U.sz te)
    (hz : zeroC P te = some zc) (hzl : zc.length = U.sz te) (h0 : 0 < U.sz te) (hb0 : 0 < byOf P te) {xs ys : List (T te)} {v vy : Value} {cl : List Value} {ty : Nat}
    (hown : w.ownsRow 0 te (U.sz te) v xs.length cl) (hcr : CR U ρ M (xs.flatMap (U.enc te)) cl) (hy : RowR U ρ M w te ys vy) (hle : (xs.length + ys.length) * byOf P te ≤ 140737488355328) :
    ∃ v' w' cl', (Builtin.append_ #[t, t] ty #[v, vy]).run P w = .ok v' w' ∧ w'.ownsRow 0 te (U.sz te) v' (xs ++ ys).length cl' ∧ CR U ρ M ((xs ++ ys).flatMap (U.enc te)) cl' ∧
      w.grownBy w' v.ownBlock ∧ (v'.ownBlock = v.ownBlock ∨ v'.ownBlock = some w.heap.size) := by
  obtain ⟨i', z, hi', hz', rfl, h1z⟩ := zero_run hz
  rw [hi] at hi'
  cases hi'
  obtain ⟨⟨A, cap, rfl, hnil⟩, cy, hcy, hcell⟩ := hy
  rw [byOf_eq hi] at hle hb0
  have hlen : xs.length + ys.length ≤ 140737488355328 := Nat.le_trans (Nat.le_mul_of_pos_right _ hb0) hle
  cases A with
  | none =>
    obtain ⟨rfl, rfl⟩ := hnil rfl
    refine ⟨v, w, cl, run_append_owned_none (P := P) w 0 t ty te i (U.sz te) hu hi v xs.length cl hown, ?_, ?_, ⟨rfl, rfl, rfl, Nat.le_refl _, fun _ _ _ => rfl⟩, .inl rfl⟩
    · simpa using hown
    · simpa using hcr
  | some ad =>
    obtain ⟨v', w', hr, ho', hg, _, hat⟩ := run_append_own_at (P := P) w 0 t ty te i z (U.sz te) i.bytes hu hi hz' hsz rfl (by simpa using hzl) h0 v xs.length cl hown ad ys.length cap cy
      (by rw [← hcy.len, flat_len hU]) (hcell ad _ _ rfl) hcy.one (by simp only [maxLen]; omega) hle (Nat.zero_le _)
    refine ⟨v', w', cl ++ cy, hr, by simpa using ho', ?_, hg, hat⟩
    rw [List.flatMap_append]
    exact hcr.append hcy

theorem good_append (hU : UOk U) (R : Rl U w0 M0 nt s nid a w ρ M) {q : Call} (ho : o.op = .call q) (hq : q.callee = .builtin .append)
    (h : (opQ P U Tb nid (.call q)).run s = some c) : Good P U w0 M0 s nid ρ M a w o c := by
  simp only [opQ, hq] at h
  split at h
  · rename_i t0 t1 hts
    split at h
    · rename_i ht
      have ht' := beq_eq ht
      subst ht'
      obtain ⟨te, i, hu, hi, hsz, h⟩ := elemQ_run h
      obtain ⟨zc, hz, h⟩ := optQ_run h
      split at h
      · rename_i hchk
        simp only [Bool.and_eq_true] at hchk
        obtain ⟨hz1, hz2, hz3⟩ := hchk
        have hzl : zc.length = U.sz te := beq_eq hz1
        have h0 : 0 < U.sz te := by simpa [Nat.blt_eq] using hz2
        have hb0 : 0 < byOf P te := by simpa [Nat.blt_eq] using hz3
        have hargs : q.argTypes = #[t0, t0] := by
          have : q.argTypes = q.argTypes.toList.toArray := by simp
          rw [this, hts]
        obtain ⟨l, hl, h⟩ := rdOs_run h
        have run : ∀ x y v v' w', a.eval x = v → q.args.map a.eval = #[a.eval x, a.eval y] → (Builtin.append_ #[t0, t0] o.type #[v, a.eval y]).run P w = .ok v' w' → (execOp a.eval o).run P w = .ok (.value v') w' := by
          intro x y v v' w' hx he hr
          refine call_run ho hq fun cs => ?_
          simp only [Go.builtin, he, hargs, hx]
          exact run_v hr
        split at h
        · obtain ⟨x, y, hxy, vx, vy⟩ := args2 hl R
          split at h
          · rename_i b
            simp only [RQ.run] at h
            split at h
            · rename_i t xs hb
              split at h
              · rename_i hte
                have hte' := beq_eq hte
                subst hte'
                obtain ⟨ys, hys, h⟩ := rowQ_run hU R vy h
                simp only [RQ.run, Option.some.injEq] at h
                subst h
                intro hc _ _
                have hle : (xs.length + ys.length) * byOf P t ≤ 140737488355328 := by simpa [Step.if_] using hc
                obtain ⟨v, hρ, cl, hown, hcr, hM⟩ := R.mr.arr hb
                generalize hxe : a.eval x = xv at vx
                cases vx with
                | own _ A n cp hρ' =>
                  rw [hρ] at hρ'
                  cases hρ'
                  obtain ⟨v', w', cl', hr, ho', hcr', hg, hat⟩ := append_run (P := P) (ty := o.type) hU R hu hi hsz hz hzl h0 hb0 hown hcr hys hle
                  refine .val (run x y _ v' w' hxe hxy hr) ?_
                  refine Post.grown R (b := some b) (fun b' e => ?_) (fun e => by cases e) hM (fun g hg' => R.mr.arr_own hb hρ hg') ?_ ho' hcr' hg hat
                  · cases e
                    exact ⟨hρ, by rw [hb]; rfl⟩
                  · cases A <;> rfl
              · simp [RQ.run] at h
            · simp [RQ.run] at h
          · obtain ⟨ys, hys, h⟩ := rowQ_run hU R vy h
            simp only [RQ.run, Option.some.injEq] at h
            subst h
            intro hc _ _
            have hle : ys.length * byOf P te ≤ 140737488355328 := by simpa [Step.if_] using hc
            generalize hxe : a.eval x = xv at vx
            cases vx
            obtain ⟨v', w', cl', hr, ho', hcr', hg, hat⟩ := append_run (P := P) (ty := o.type) hU R hu hi hsz hz hzl h0 hb0 (xs := ([] : List (T te))) (World.ownsRow_nil w 0 te (U.sz te)) .nil hys (by simpa using hle)
            refine .val (run x y _ v' w' hxe hxy hr) ?_
            refine Post.grown R (b := none) (v := .slice none 0 0) (fun b' e => by cases e) (fun _ => rfl) (fun g hg' => by cases hg') (fun g hg' => by cases hg') rfl ho' hcr' hg hat
          · simp [RQ.run] at h
        · simp [RQ.run] at h
      · simp [RQ.run] at h
    · simp [RQ.run] at h
  · simp [RQ.run] at h
end
end Go.Sx
