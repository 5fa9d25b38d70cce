/- An evaluator of the model's code over symbolic values, and its soundness: part 9. No condition. -/
import Derived.Test.YtecniihieninjaaSyJ
set_option linter.unusedVariables false
set_option linter.unusedSimpArgs false
namespace Go.Sx
open Go.RowKit
variable {T : Nat → Type} {U : Univ T} {P : Program}

section
variable {w0 : Frm} {M0 : Mem} {nt nid : Nat} {s : St T} {a : Act} {w : World} {ρ : Nat → Option Value} {M : Mem} {c : Step T} {o : Oper} {Tb : Calls_ T} {α : Type 1} {r : α}

def capOf : Value → Nat
  | .slice _ _ c => c
  | _ => 0

theorem mr_congr {env env' : Nat → Blk T} (h : MR U w0 M0 env ρ M w) (e : ∀ b, env' b = env b) : MR U w0 M0 env' ρ M w := by
  have : env' = env := funext e
  rw [this]
  exact h

/-- A row of one's own is frozen. -/
theorem MR.freeze (hU : UOk U) (h : MR U w0 M0 s.blk ρ M w) {b t : Nat} {xs : List (T t)} (hb : s.blk b = .arr t xs) :
    ∃ M', LeM M M' ∧ MR U w0 M0 (s.puts [(b, .frz t xs)]).blk ρ M' w ∧ ∀ v, ρ b = some v → VR U ρ M' (.row t xs) v := by
  obtain ⟨v, hρ, cl, hown, hcr, hM⟩ := h.arr hb
  let M' : Mem := ⟨fun g o => if v.ownBlock = some g ∧ o < xs.length * U.sz t then w.cell? ⟨g, o, none⟩ else M g o, if U.em = some t then M.bp.map (fun B g => if v.ownBlock = some g then some (xs.length, capOf v) else B g) else M.bp, M.hp⟩
  have hpin : ∀ g o, M' g o = if v.ownBlock = some g ∧ o < xs.length * U.sz t then w.cell? ⟨g, o, none⟩ else M g o := fun _ _ => rfl
  have hbp : ∀ B', M'.bp = some B' → ∃ B, M.bp = some B ∧ ((U.em = some t ∧ ∀ g, B' g = if v.ownBlock = some g then some (xs.length, capOf v) else B g) ∨ (U.em ≠ some t ∧ B' = B)) := by
    intro B' hB'
    change (if U.em = some t then M.bp.map (fun B g => if v.ownBlock = some g then some (xs.length, capOf v) else B g) else M.bp) = some B' at hB'
    split at hB'
    · rename_i hem
      cases hB : M.bp with
      | none => rw [hB] at hB'; cases hB'
      | some B =>
        rw [hB] at hB'
        simp only [Option.map_some, Option.some.injEq] at hB'
        subst hB'
        exact ⟨B, rfl, .inl ⟨hem, fun _ => rfl⟩⟩
    · rename_i hem
      exact ⟨B', hB', .inr ⟨hem, rfl⟩⟩
  have hle : LeM M M' := by
    refine ⟨fun g o u hu => ?_, fun B' hB' => ?_, fun _ _ h => h⟩
    · rw [hpin]
      split
      · rename_i hc
        rw [(hM g hc.1).1 o] at hu
        cases hu
      · exact hu
    · obtain ⟨B, hB, h1⟩ := hbp B' hB'
      refine ⟨B, hB, fun g x hx => ?_⟩
      rcases h1 with ⟨_, h1⟩ | ⟨_, rfl⟩
      · rw [h1, if_neg]
        · exact hx
        · intro hv
          rw [(hM g hv).2 B hB] at hx
          cases hx
      · exact hx
  have hbs : BpS U w0 M M' w := by
    refine ⟨fun B' hB' => ?_, fun B' hB' g x hx => ?_, ?_, rfl⟩
    · obtain ⟨B, hB, h1⟩ := hbp B' hB'
      obtain ⟨e, he, hk⟩ := h.bpw B hB
      refine ⟨e, he, fun g n c hg => ?_⟩
      have old : B g = some (n, c) → v.ownBlock ≠ some g → ∃ cur, w.heap[g]? = some (.cells cur e (0, 0)) ∧ cur.size = c * U.sz e ∧ n ≤ c ∧ c ≤ maxLen ∧ ∀ o, n * U.sz e ≤ o → M' g o = none := by
        intro h2 h3
        obtain ⟨cur, k1, k2, k3, k4, k5⟩ := hk g n c h2
        refine ⟨cur, k1, k2, k3, k4, fun o ho => ?_⟩
        rw [hpin, if_neg (fun hc => h3 hc.1)]
        exact k5 o ho
      have hno : B g = some (n, c) → v.ownBlock ≠ some g := fun h2 h3 => by
        rw [(hM g h3).2 B hB] at h2
        cases h2
      rcases h1 with ⟨hem, h1⟩ | ⟨_, rfl⟩
      · rw [h1] at hg
        split at hg
        · rename_i hv
          rw [hem] at he
          cases he
          simp only [Option.some.injEq, Prod.mk.injEq] at hg
          obtain ⟨rfl, rfl⟩ := hg
          rcases hown.2 with ⟨e, _⟩ | ⟨g', cap, cur, e, _, hgc, hnc, hcm, hcs, _⟩
          · rw [e] at hv; cases hv
          · rw [e] at hv
            cases hv
            refine ⟨cur, hgc, ?_, ?_, ?_, fun o ho => ?_⟩
            · rw [e]; exact hcs
            · rw [e]; exact hnc
            · rw [e]; exact hcm
            · rw [hpin, if_neg (fun hc => Nat.not_lt_of_le ho hc.2)]
              exact (hM _ (by rw [e]; rfl)).1 o
        · exact old hg (hno hg)
      · exact old hg (hno hg)
    · obtain ⟨B, hB, h1⟩ := hbp B' hB'
      rcases h1 with ⟨_, h1⟩ | ⟨_, rfl⟩
      · rw [h1] at hx
        split at hx
        · rename_i hv
          exact .inr (h.arr_own hb hρ hv)
        · exact .inl ⟨B, hB, hx⟩
      · exact .inl ⟨_, hB, hx⟩
    · show (if U.em = some t then M.bp.map (fun B g => if v.ownBlock = some g then some (xs.length, capOf v) else B g) else M.bp).isSome = M.bp.isSome
      split
      · cases M.bp <;> rfl
      · rfl
  have hlen : cl.length = xs.length * U.sz t := by rw [← hcr.len, flat_len hU]
  have hcells : ∀ g, v.ownBlock = some g → ∀ j u, cl[j]? = some u → w.cell? ⟨g, j, none⟩ = some u := by
    intro g hg j u hj
    have := hown.cells hg j u hj
    rwa [add_at, Nat.zero_add] at this
  have hrow : ∀ v', ρ b = some v' → VR U ρ M' (.row t xs) v' := by
    intro v' hv'
    rw [hρ] at hv'
    cases hv'
    have hcr' := hcr.mono (.refl ρ) hle
    have hidx : ∀ i (hi : i < xs.length) j, j < (U.enc t xs[i]).length → i * U.sz t + j < cl.length := by
      intro i hi j hj
      rw [hU.len] at hj
      rw [hlen]
      have := Nat.mul_le_mul_right (U.sz t) (show i + 1 ≤ xs.length from hi)
      rw [Nat.succ_mul] at this
      omega
    have hgo : ∀ A cap, v = .slice A xs.length cap → xs.length ≤ cap → (A = none → xs = [] ∧ cap = 0) → (∀ ad, A = some ad → ad.spot = none ∧ v.ownBlock = some ad.block ∧ ad.off = 0) → VR U ρ M' (.row t xs) v := by
      intro A cap e hc h0 hs
      rw [e]
      refine .row t xs A cap (fun i j => cl.getD (i * U.sz t + j) undef) hc h0 (fun ad ha _ => (hs ad ha).1) (fun ad ha i hi j hj => ?_) (fun i hi j hj => ?_) (fun i hi j hj => ?_) (fun B' hB' hem ad ha => ?_)
      · have hk := hidx i hi j hj
        obtain ⟨_, h2, h3⟩ := hs ad ha
        rw [h3, Nat.zero_add]
        rw [hpin, if_pos ⟨h2, by omega⟩, List.getD_eq_getElem?_getD, List.getElem?_eq_getElem hk]
        exact hcells _ h2 _ _ (List.getElem?_eq_getElem hk)
      · have hk := hidx i hi j hj
        rw [List.getD_eq_getElem?_getD, List.getElem?_eq_getElem hk]
        exact hcr.one _ (List.getElem_mem hk)
      · have hk := hidx i hi j hj
        have hel := hcr'.elem hU hi
        have h2 : j < ((cl.drop (i * U.sz t)).take (U.sz t)).length := by rw [← hel.len]; exact hj
        have := hel.at_ j hj h2
        simpa [List.getD_eq_getElem?_getD, List.getElem?_eq_getElem hk] using this
      · obtain ⟨h1, h2, h3⟩ := hs ad ha
        refine ⟨?_, h3, h1⟩
        obtain ⟨B, _, k⟩ := hbp B' hB'
        rcases k with ⟨_, k⟩ | ⟨k, _⟩
        · rw [k, if_pos h2, e]
          rfl
        · exact absurd hem k
    rcases hown.2 with ⟨e, h0⟩ | ⟨g, cap, cur, e, _, _, hnc, _⟩
    · exact hgo none 0 (by rw [e, h0]) (by omega) (fun _ => ⟨List.eq_nil_of_length_eq_zero h0, rfl⟩) (fun ad ha => by cases ha)
    · exact hgo _ cap e hnc (fun e => by cases e) (fun ad ha => by cases ha; exact ⟨rfl, by rw [e]; rfl, rfl⟩)
  refine ⟨M', hle, ?_, hrow⟩
  refine h.step (fun b' => b' = b) h.fr (.refl _) hle hbs ?_ ?_ ?_ ?_ ?_
  · intro g o hg
    rw [hpin]
    split
    · rename_i hc
      obtain ⟨hc1, _⟩ := hc
      exact absurd (h.arr_own hb hρ hc1) hg
    · rfl
  · intro g o u hu
    rw [hpin] at hu
    split at hu
    · exact hu
    · exact h.sub _ _ _ hu
  · intro b' hb'
    refine ⟨by rw [blk_put1, if_neg (Ne.symm hb')], fun v1 g hl hv hg => ⟨rfl, ?_⟩⟩
    have hne : v.ownBlock ≠ some g := fun hc => hb' (h.inj b' b v1 v g hl (by rw [hb]; rfl) hv hρ hg (blockOf_own hc))
    refine ⟨fun o => ?_, fun B' hB' => ?_⟩
    · rw [hpin, if_neg (fun hc => hne hc.1)]
    · obtain ⟨B, hB, h1⟩ := hbp B' hB'
      rcases h1 with ⟨_, h1⟩ | ⟨_, rfl⟩
      · exact ⟨B, hB, by rw [h1, if_neg hne]⟩
      · exact ⟨_, hB, rfl⟩
  · intro b' hb'
    subst hb'
    refine .inr ⟨v, hρ, ?_⟩
    rw [blk_put1, if_pos rfl]
    refine ⟨?_, hrow v hρ⟩
    obtain ⟨A, cap, e⟩ := row_slice (hrow v hρ)
    exact ⟨_, _, _, e⟩
  · intro b1 b2 v1 v2 g h1 h2 e1 e2 g1 g2
    have live : ∀ b', ((s.puts [(b, .frz t xs)]).blk b').live = true → (s.blk b').live = true := by
      intro b' hl
      rw [blk_put1] at hl
      split at hl
      · cases hl
      · exact hl
    exact h.inj b1 b2 v1 v2 g (live _ h1) (live _ h2) e1 e2 g1 g2

theorem puts_cons (s : St T) (b : Nat) (k : Blk T) (ws : List (Nat × Blk T)) : s.puts ((b, k) :: ws) = (s.puts ws).puts [(b, k)] := rfl

/-- What freezing leaves. -/
structure Frz (U : Univ T) (w0 : Frm) (M0 : Mem) (s : St T) (ρ : Nat → Option Value) (M : Mem) (w : World) (l l' : List (SV T)) (ws : List (Nat × Blk T)) (M' : Mem) : Prop where
  le : LeM M M'
  mr : MR U w0 M0 (s.puts ws).blk ρ M' w
  kept : ∀ b, (s.puts ws).blk b = s.blk b ∨ ∃ t xs, s.blk b = .arr t xs ∧ (s.puts ws).blk b = .frz t xs
  out : ∀ b, (∀ p ∈ ws, p.1 ≠ b) → (s.puts ws).blk b = s.blk b
  len : l'.length = l.length
  vr : ∀ i (h : i < l.length) (h' : i < l'.length) v, VR U ρ M l[i] v → VR U ρ M' l'[i] v

theorem Frz.plain {x : SV T} {l l' : List (SV T)} {ws : List (Nat × Blk T)} {M' : Mem} (F : Frz U w0 M0 s ρ M w l l' ws M') : Frz U w0 M0 s ρ M w (x :: l) (x :: l') ws M' :=
  ⟨F.le, F.mr, F.kept, F.out, by simp [F.len], fun i h h' v hv => by
    cases i with
    | zero => exact hv.mono (.refl _) F.le
    | succ i => exact F.vr i (by simp at h; omega) (by simp at h'; omega) v hv⟩

theorem frzL_run (hU : UOk U) (hmr : MR U w0 M0 s.blk ρ M w) : ∀ {l : List (SV T)} {k : List (SV T) → List (Nat × Blk T) → RQ T α}, (frzL l k).run s = some r →
    ∃ l' ws M', Frz U w0 M0 s ρ M w l l' ws M' ∧ (k l' ws).run s = some r
  | [], k, h => ⟨[], [], M, ⟨.refl _, hmr, fun b => .inl rfl, fun b _ => rfl, rfl, fun i h => by simp at h⟩, h⟩
  | .own b :: l, k, h => by
    simp only [frzL, RQ.run] at h
    split at h
    · rename_i t xs hb
      obtain ⟨l', ws, M', F, h⟩ := frzL_run hU hmr h
      have hrow : ∃ M'', LeM M' M'' ∧ MR U w0 M0 (s.puts ((b, .frz t xs) :: ws)).blk ρ M'' w ∧ ∀ v, ρ b = some v → VR U ρ M'' (.row t xs) v := by
        rcases F.kept b with e | ⟨t', xs', e, e'⟩
        · obtain ⟨M'', h1, h2, h3⟩ := MR.freeze hU F.mr (e.trans hb)
          exact ⟨M'', h1, by rw [puts_cons]; exact h2, h3⟩
        · rw [hb] at e
          cases e
          refine ⟨M', .refl _, mr_congr F.mr fun b' => ?_, fun v hv => ?_⟩
          · rw [puts_cons, blk_put1]
            split
            · rename_i e; subst e; exact e'.symm
            · rfl
          · obtain ⟨v', hv', _, hr⟩ := F.mr.frz e'
            rw [hv] at hv'
            cases hv'
            exact hr
      obtain ⟨M'', h1, h2, h3⟩ := hrow
      refine ⟨.row t xs :: l', (b, .frz t xs) :: ws, M'', ⟨F.le.trans h1, h2, fun b' => ?_, fun b' hb' => ?_, by simp [F.len], fun i h h' v hv => ?_⟩, h⟩
      · rw [puts_cons, blk_put1]
        split
        · rename_i e; subst e; exact .inr ⟨t, xs, hb, rfl⟩
        · exact F.kept b'
      · rw [puts_cons, blk_put1, if_neg (hb' _ (List.mem_cons_self ..))]
        exact F.out b' fun p hp => hb' p (List.mem_cons_of_mem _ hp)
      · cases i with
        | zero =>
          cases hv with
          | own _ A n cp hρ => exact h3 _ hρ
        | succ i => exact (F.vr i (by simp at h; omega) (by simp at h'; omega) v hv).mono (.refl _) h1
    · rename_i t xs hb
      obtain ⟨l', ws, M', F, h⟩ := frzL_run hU hmr h
      refine ⟨.row t xs :: l', ws, M', ⟨F.le, F.mr, F.kept, F.out, by simp [F.len], fun i h h' v hv => ?_⟩, h⟩
      cases i with
      | zero =>
        cases hv with
        | own _ A n cp hρ =>
          obtain ⟨v', hv', _, hr⟩ := hmr.frz hb
          rw [hρ] at hv'
          cases hv'
          exact hr.mono (.refl _) F.le
      | succ i => exact F.vr i (by simp at h; omega) (by simp at h'; omega) v hv
    · simp [RQ.run] at h
  | .any :: l, k, h => by obtain ⟨l', ws, M', F, h⟩ := frzL_run hU hmr (show (frzL l _).run s = some r from h); exact ⟨_, ws, M', F.plain, h⟩
  | .v _ :: l, k, h => by obtain ⟨l', ws, M', F, h⟩ := frzL_run hU hmr (show (frzL l _).run s = some r from h); exact ⟨_, ws, M', F.plain, h⟩
  | .row _ _ :: l, k, h => by obtain ⟨l', ws, M', F, h⟩ := frzL_run hU hmr (show (frzL l _).run s = some r from h); exact ⟨_, ws, M', F.plain, h⟩
  | .sub _ _ :: l, k, h => by obtain ⟨l', ws, M', F, h⟩ := frzL_run hU hmr (show (frzL l _).run s = some r from h); exact ⟨_, ws, M', F.plain, h⟩
  | .ptr _ _ :: l, k, h => by obtain ⟨l', ws, M', F, h⟩ := frzL_run hU hmr (show (frzL l _).run s = some r from h); exact ⟨_, ws, M', F.plain, h⟩
  | .eptr _ _ _ _ :: l, k, h => by obtain ⟨l', ws, M', F, h⟩ := frzL_run hU hmr (show (frzL l _).run s = some r from h); exact ⟨_, ws, M', F.plain, h⟩
  | .rptr _ _ _ _ :: l, k, h => by obtain ⟨l', ws, M', F, h⟩ := frzL_run hU hmr (show (frzL l _).run s = some r from h); exact ⟨_, ws, M', F.plain, h⟩
  | .hnd _ _ :: l, k, h => by obtain ⟨l', ws, M', F, h⟩ := frzL_run hU hmr (show (frzL l _).run s = some r from h); exact ⟨_, ws, M', F.plain, h⟩
  | .hptr _ _ _ _ :: l, k, h => by obtain ⟨l', ws, M', F, h⟩ := frzL_run hU hmr (show (frzL l _).run s = some r from h); exact ⟨_, ws, M', F.plain, h⟩
  | .agg _ :: l, k, h => by obtain ⟨l', ws, M', F, h⟩ := frzL_run hU hmr (show (frzL l _).run s = some r from h); exact ⟨_, ws, M', F.plain, h⟩
  | .tup _ :: l, k, h => by obtain ⟨l', ws, M', F, h⟩ := frzL_run hU hmr (show (frzL l _).run s = some r from h); exact ⟨_, ws, M', F.plain, h⟩
end
end Go.Sx
