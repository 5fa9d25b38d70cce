/- An evaluator of the model's code over symbolic values, and its soundness: part 9. No condition. -/
import Derived.Test.YtjjblclmpjaegaaDoorSxJ
set_option linter.unusedVariables false
set_option linter.unusedSimpArgs false
namespace Go.Sx
open Go.RowKit
variable {T : Nat → Type} {U : Univ T} {P : Program}

section
variable {w0 : Frm} {M0 : Mem} {nt nid : Nat} {s : St T} {a : Act} {w : World} {ρ : Nat → Option Value} {M : Mem} {c : Step T} {o : Oper} {Tb : Calls_ T} {α : Type 1} {r : α}

theorem mr_congr {env env' : Nat → Blk T} (h : MR U w0 M0 env ρ M w) (e : ∀ b, env' b = env b) : MR U w0 M0 env' ρ M w := by
  have : env' = env := funext e
  rw [this]
  exact h

/-- A row of one's own is frozen. -/
theorem MR.freeze (hU : UOk U) (h : MR U w0 M0 s.blk ρ M w) {b t : Nat} {xs : List (T t)} (hb : s.blk b = .arr t xs) :
    ∃ M', LeM M M' ∧ MR U w0 M0 (s.puts [(b, .frz t xs)]).blk ρ M' w ∧ ∀ v, ρ b = some v → VR U ρ M' (.row t xs) v := by
  obtain ⟨v, hρ, cl, hown, hcr, hM⟩ := h.arr hb
  let M' : Mem := fun g o => if v.ownBlock = some g ∧ o < xs.length * U.sz t then w.cell? ⟨g, o, none⟩ else M g o
  have hle : LeM M M' := by
    intro g o u hu
    simp only [M']
    split
    · rename_i hc
      rw [hM g hc.1 o] at hu
      cases hu
    · exact hu
  have hlen : cl.length = xs.length * U.sz t := by rw [← hcr.len, flat_len hU]
  have hcells : ∀ g, v.ownBlock = some g → ∀ j u, cl[j]? = some u → w.cell? ⟨g, j, none⟩ = some u := by
    intro g hg j u hj
    have := hown.cells hg j u hj
    rwa [add_at, Nat.zero_add] at this
  have hrow : ∀ v', ρ b = some v' → VR U ρ M' (.row t xs) v' := by
    intro v' hv'
    rw [hρ] at hv'
    cases hv'
    have hcr' := hcr.mono (.refl ρ) hle
    have hidx : ∀ i (hi : i < xs.length) j, j < (U.enc t xs[i]).length → i * U.sz t + j < cl.length := by
      intro i hi j hj
      rw [hU.len] at hj
      rw [hlen]
      have := Nat.mul_le_mul_right (U.sz t) (show i + 1 ≤ xs.length from hi)
      rw [Nat.succ_mul] at this
      omega
    have hgo : ∀ A cap, v = .slice A xs.length cap → xs.length ≤ cap → (A = none → xs = [] ∧ cap = 0) → (∀ ad, A = some ad → ad.spot = none ∧ v.ownBlock = some ad.block ∧ ad.off = 0) → VR U ρ M' (.row t xs) v := by
      intro A cap e hc h0 hs
      rw [e]
      refine .row t xs A cap (fun i j => cl.getD (i * U.sz t + j) undef) hc h0 (fun ad ha _ => (hs ad ha).1) (fun ad ha i hi j hj => ?_) (fun i hi j hj => ?_) (fun i hi j hj => ?_)
      · have hk := hidx i hi j hj
        obtain ⟨_, h2, h3⟩ := hs ad ha
        rw [h3, Nat.zero_add]
        simp only [M']
        rw [if_pos ⟨h2, by omega⟩, List.getD_eq_getElem?_getD, List.getElem?_eq_getElem hk]
        exact hcells _ h2 _ _ (List.getElem?_eq_getElem hk)
      · have hk := hidx i hi j hj
        rw [List.getD_eq_getElem?_getD, List.getElem?_eq_getElem hk]
        exact hcr.one _ (List.getElem_mem hk)
      · have hk := hidx i hi j hj
        have hel := hcr'.elem hU hi
        have h2 : j < ((cl.drop (i * U.sz t)).take (U.sz t)).length := by rw [← hel.len]; exact hj
        have := hel.at_ j hj h2
        simpa [List.getD_eq_getElem?_getD, List.getElem?_eq_getElem hk] using this
    rcases hown.2 with ⟨e, h0⟩ | ⟨g, cap, cur, e, _, _, hnc, _⟩
    · exact hgo none 0 (by rw [e, h0]) (by omega) (fun _ => ⟨List.eq_nil_of_length_eq_zero h0, rfl⟩) (fun ad ha => by cases ha)
    · exact hgo _ cap e hnc (fun e => by cases e) (fun ad ha => by cases ha; exact ⟨rfl, by rw [e]; rfl, rfl⟩)
  refine ⟨M', hle, ?_, hrow⟩
  refine h.step (fun b' => b' = b) h.fr (.refl _) hle ?_ ?_ ?_ ?_ ?_
  · intro g o hg
    simp only [M']
    split
    · rename_i hc
      obtain ⟨hc1, _⟩ := hc
      exact absurd (h.arr_own hb hρ hc1) hg
    · rfl
  · intro g o u hu
    simp only [M'] at hu
    split at hu
    · exact hu
    · exact h.sub _ _ _ hu
  · intro b' hb'
    refine ⟨by rw [blk_put1, if_neg (Ne.symm hb')], fun v1 g hl hv hg => ⟨rfl, fun o => ?_⟩⟩
    simp only [M']
    split
    · rename_i hc
      have := h.inj b' b v1 v g hl (by rw [hb]; rfl) hv hρ hg (blockOf_own hc.1)
      exact (hb' this).elim
    · rfl
  · intro b' hb'
    subst hb'
    refine .inr ⟨v, hρ, ?_⟩
    rw [blk_put1, if_pos rfl]
    refine ⟨?_, hrow v hρ⟩
    obtain ⟨A, cap, e⟩ := row_slice (hrow v hρ)
    exact ⟨_, _, _, e⟩
  · intro b1 b2 v1 v2 g h1 h2 e1 e2 g1 g2
    have live : ∀ b', ((s.puts [(b, .frz t xs)]).blk b').live = true → (s.blk b').live = true := by
      intro b' hl
      rw [blk_put1] at hl
      split at hl
      · cases hl
      · exact hl
    exact h.inj b1 b2 v1 v2 g (live _ h1) (live _ h2) e1 e2 g1 g2

theorem puts_cons (s : St T) (b : Nat) (k : Blk T) (ws : List (Nat × Blk T)) : s.puts ((b, k) :: ws) = (s.puts ws).puts [(b, k)] := rfl

/-- What freezing leaves. -/
structure Frz (U : Univ T) (w0 : Frm) (M0 : Mem) (s : St T) (ρ : Nat → Option Value) (M : Mem) (w : World) (l l' : List (SV T)) (ws : List (Nat × Blk T)) (M' : Mem) : Prop where
  le : LeM M M'
  mr : MR U w0 M0 (s.puts ws).blk ρ M' w
  kept : ∀ b, (s.puts ws).blk b = s.blk b ∨ ∃ t xs, s.blk b = .arr t xs ∧ (s.puts ws).blk b = .frz t xs
  out : ∀ b, (∀ p ∈ ws, p.1 ≠ b) → (s.puts ws).blk b = s.blk b
  len : l'.length = l.length
  vr : ∀ i (h : i < l.length) (h' : i < l'.length) v, VR U ρ M l[i] v → VR U ρ M' l'[i] v

theorem Frz.plain {x : SV T} {l l' : List (SV T)} {ws : List (Nat × Blk T)} {M' : Mem} (F : Frz U w0 M0 s ρ M w l l' ws M') : Frz U w0 M0 s ρ M w (x :: l) (x :: l') ws M' :=
  ⟨F.le, F.mr, F.kept, F.out, by simp [F.len], fun i h h' v hv => by
    cases i with
    | zero => exact hv.mono (.refl _) F.le
    | succ i => exact F.vr i (by simp at h; omega) (by simp at h'; omega) v hv⟩

theorem frzL_run (hU : UOk U) (hmr : MR U w0 M0 s.blk ρ M w) : ∀ {l : List (SV T)} {k : List (SV T) → List (Nat × Blk T) → RQ T α}, (frzL l k).run s = some r →
    ∃ l' ws M', Frz U w0 M0 s ρ M w l l' ws M' ∧ (k l' ws).run s = some r
  | [], k, h => ⟨[], [], M, ⟨.refl _, hmr, fun b => .inl rfl, fun b _ => rfl, rfl, fun i h => by simp at h⟩, h⟩
  | .own b :: l, k, h => by
    simp only [frzL, RQ.run] at h
    split at h
    · rename_i t xs hb
      obtain ⟨l', ws, M', F, h⟩ := frzL_run hU hmr h
      have hrow : ∃ M'', LeM M' M'' ∧ MR U w0 M0 (s.puts ((b, .frz t xs) :: ws)).blk ρ M'' w ∧ ∀ v, ρ b = some v → VR U ρ M'' (.row t xs) v := by
        rcases F.kept b with e | ⟨t', xs', e, e'⟩
        · obtain ⟨M'', h1, h2, h3⟩ := MR.freeze hU F.mr (e.trans hb)
          exact ⟨M'', h1, by rw [puts_cons]; exact h2, h3⟩
        · rw [hb] at e
          cases e
          refine ⟨M', .refl _, mr_congr F.mr fun b' => ?_, fun v hv => ?_⟩
          · rw [puts_cons, blk_put1]
            split
            · rename_i e; subst e; exact e'.symm
            · rfl
          · obtain ⟨v', hv', _, hr⟩ := F.mr.frz e'
            rw [hv] at hv'
            cases hv'
            exact hr
      obtain ⟨M'', h1, h2, h3⟩ := hrow
      refine ⟨.row t xs :: l', (b, .frz t xs) :: ws, M'', ⟨F.le.trans h1, h2, fun b' => ?_, fun b' hb' => ?_, by simp [F.len], fun i h h' v hv => ?_⟩, h⟩
      · rw [puts_cons, blk_put1]
        split
        · rename_i e; subst e; exact .inr ⟨t, xs, hb, rfl⟩
        · exact F.kept b'
      · rw [puts_cons, blk_put1, if_neg (hb' _ (List.mem_cons_self ..))]
        exact F.out b' fun p hp => hb' p (List.mem_cons_of_mem _ hp)
      · cases i with
        | zero =>
          cases hv with
          | own _ A n cp hρ => exact h3 _ hρ
        | succ i => exact (F.vr i (by simp at h; omega) (by simp at h'; omega) v hv).mono (.refl _) h1
    · rename_i t xs hb
      obtain ⟨l', ws, M', F, h⟩ := frzL_run hU hmr h
      refine ⟨.row t xs :: l', ws, M', ⟨F.le, F.mr, F.kept, F.out, by simp [F.len], fun i h h' v hv => ?_⟩, h⟩
      cases i with
      | zero =>
        cases hv with
        | own _ A n cp hρ =>
          obtain ⟨v', hv', _, hr⟩ := hmr.frz hb
          rw [hρ] at hv'
          cases hv'
          exact hr.mono (.refl _) F.le
      | succ i => exact F.vr i (by simp at h; omega) (by simp at h'; omega) v hv
    · simp [RQ.run] at h
  | .any :: l, k, h => by obtain ⟨l', ws, M', F, h⟩ := frzL_run hU hmr (show (frzL l _).run s = some r from h); exact ⟨_, ws, M', F.plain, h⟩
  | .v _ :: l, k, h => by obtain ⟨l', ws, M', F, h⟩ := frzL_run hU hmr (show (frzL l _).run s = some r from h); exact ⟨_, ws, M', F.plain, h⟩
  | .row _ _ :: l, k, h => by obtain ⟨l', ws, M', F, h⟩ := frzL_run hU hmr (show (frzL l _).run s = some r from h); exact ⟨_, ws, M', F.plain, h⟩
  | .ptr _ _ :: l, k, h => by obtain ⟨l', ws, M', F, h⟩ := frzL_run hU hmr (show (frzL l _).run s = some r from h); exact ⟨_, ws, M', F.plain, h⟩
  | .eptr _ _ _ _ :: l, k, h => by obtain ⟨l', ws, M', F, h⟩ := frzL_run hU hmr (show (frzL l _).run s = some r from h); exact ⟨_, ws, M', F.plain, h⟩
  | .rptr _ _ _ _ :: l, k, h => by obtain ⟨l', ws, M', F, h⟩ := frzL_run hU hmr (show (frzL l _).run s = some r from h); exact ⟨_, ws, M', F.plain, h⟩
  | .agg _ :: l, k, h => by obtain ⟨l', ws, M', F, h⟩ := frzL_run hU hmr (show (frzL l _).run s = some r from h); exact ⟨_, ws, M', F.plain, h⟩
  | .tup _ :: l, k, h => by obtain ⟨l', ws, M', F, h⟩ := frzL_run hU hmr (show (frzL l _).run s = some r from h); exact ⟨_, ws, M', F.plain, h⟩
end
end Go.Sx
