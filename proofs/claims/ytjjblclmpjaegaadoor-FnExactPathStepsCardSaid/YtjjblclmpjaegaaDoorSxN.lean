/- An evaluator of the model's code over symbolic values, and its soundness: part 12. No condition. -/
import Derived.Test.YtjjblclmpjaegaaDoorSxM
set_option linter.unusedVariables false
set_option linter.unusedSimpArgs false
namespace Go.Sx
open Go.RowKit
variable {T : Nat → Type} {U : Univ T} {P : Program}

section
variable {w0 : Frm} {M0 : Mem} {nt nid : Nat} {s : St T} {a : Act} {w : World} {ρ ρ' : Nat → Option Value} {M : Mem} {c : Step T} {o : Oper} {Tb : Calls_ T} {α : Type 1} {r : α}

def GoodF (s : St T) (ws : List (Nat × Blk T)) : Prop := ∀ p ∈ ws, ∃ t xs, s.blk p.1 = .arr t xs ∧ p.2 = .frz t xs

theorem look_good : ∀ {ws : List (Nat × Blk T)}, GoodF s ws → ∀ b, ((∃ p ∈ ws, p.1 = b) → ∃ t xs, s.blk b = .arr t xs ∧ (s.puts ws).blk b = .frz t xs) ∧ ((∀ p ∈ ws, p.1 ≠ b) → (s.puts ws).blk b = s.blk b)
  | [], _, b => ⟨fun ⟨p, hp, _⟩ => by simp at hp, fun _ => rfl⟩
  | (b0, k) :: ws, h, b => by
    obtain ⟨t, xs, e1, e2⟩ := h (b0, k) (List.mem_cons_self ..)
    simp only at e1 e2
    have ih := look_good (ws := ws) (fun p hp => h p (List.mem_cons_of_mem _ hp)) b
    rw [puts_cons, blk_put1]
    by_cases e : b0 = b
    · subst e
      refine ⟨fun _ => ⟨t, xs, e1, by rw [if_pos rfl, e2]⟩, fun hn => absurd rfl (hn _ (List.mem_cons_self ..))⟩
    · rw [if_neg e]
      refine ⟨fun ⟨p, hp, hpb⟩ => ih.1 ⟨p, ?_, hpb⟩, fun hn => ih.2 fun p hp => hn p (List.mem_cons_of_mem _ hp)⟩
      rcases List.mem_cons.1 hp with rfl | hp
      · exact absurd hpb e
      · exact hp

theorem look_swap {ws ws' : List (Nat × Blk T)} (h : GoodF s ws) (h' : GoodF s ws') (hm : ∀ b, (∃ p ∈ ws, p.1 = b) ↔ ∃ p ∈ ws', p.1 = b) (b : Nat) : (s.puts ws).blk b = (s.puts ws').blk b := by
  by_cases e : ∃ p ∈ ws, p.1 = b
  · obtain ⟨t, xs, e1, e2⟩ := (look_good h b).1 e
    obtain ⟨t', xs', e1', e2'⟩ := (look_good h' b).1 ((hm b).1 e)
    rw [e1] at e1'
    cases e1'
    rw [e2, e2']
  · rw [(look_good h b).2 fun p hp hb => e ⟨p, hp, hb⟩, (look_good h' b).2 fun p hp hb => e ((hm b).2 ⟨p, hp, hb⟩)]

/-- Some rows have been frozen. -/
structure Fz (U : Univ T) (w0 : Frm) (M0 : Mem) (s : St T) (ρ : Nat → Option Value) (M : Mem) (w : World) (ws : List (Nat × Blk T)) (M' : Mem) : Prop where
  le : LeM M M'
  mr : MR U w0 M0 (s.puts ws).blk ρ M' w
  good : GoodF s ws

def VRs (U : Univ T) (ρ : Nat → Option Value) (M : Mem) (l : List (SV T)) (vs : List Value) : Prop := l.length = vs.length ∧ ∀ i (h1 : i < l.length) (h2 : i < vs.length), VR U ρ M l[i] vs[i]

theorem VRs.cons {x : SV T} {v : Value} {l : List (SV T)} {vs : List Value} (h : VR U ρ M x v) (k : VRs U ρ M l vs) : VRs U ρ M (x :: l) (v :: vs) :=
  ⟨by simp [k.1], fun i h1 h2 => by
    cases i with
    | zero => exact h
    | succ i => exact k.2 i (by simp at h1; omega) (by simp at h2; omega)⟩

theorem VRs.uncons {x : SV T} {l : List (SV T)} {vs : List Value} (h : VRs U ρ M (x :: l) vs) : ∃ v vs', vs = v :: vs' ∧ VR U ρ M x v ∧ VRs U ρ M l vs' := by
  cases vs with
  | nil => have := h.1; simp at this
  | cons v vs' =>
    refine ⟨v, vs', rfl, h.2 0 (by simp) (by simp), by have := h.1; simpa using this, fun i h1 h2 => ?_⟩
    exact h.2 (i + 1) (by simp; omega) (by simp; omega)

theorem VRs.mono {M' : Mem} {l : List (SV T)} {vs : List Value} (hM : LeM M M') (h : VRs U ρ M l vs) : VRs U ρ M' l vs := ⟨h.1, fun i h1 h2 => (h.2 i h1 h2).mono (.refl _) hM⟩

/-- Freezing one row more, on top of others. -/
theorem Fz.one (hU : UOk U) {ws0 : List (Nat × Blk T)} {Mb : Mem} (F : Fz U w0 M0 s ρ M w ws0 Mb) {b t : Nat} {xs : List (T t)} (hb : s.blk b = .arr t xs) :
    ∃ M', LeM Mb M' ∧ Fz U w0 M0 s ρ M w ((b, .frz t xs) :: ws0) M' ∧ ∀ v, ρ b = some v → VR U ρ M' (.row t xs) v := by
  have good : GoodF s ((b, .frz t xs) :: ws0) := fun p hp => by
    rcases List.mem_cons.1 hp with rfl | hp
    · exact ⟨t, xs, hb, rfl⟩
    · exact F.good p hp
  by_cases e : ∃ p ∈ ws0, p.1 = b
  · obtain ⟨t', xs', e1, e2⟩ := (look_good F.good b).1 e
    rw [hb] at e1
    cases e1
    refine ⟨Mb, .refl _, ⟨F.le, mr_congr F.mr fun b' => ?_, good⟩, fun v hv => ?_⟩
    · rw [puts_cons, blk_put1]
      split
      · rename_i e; subst e; exact e2.symm
      · rfl
    · obtain ⟨v', hv', _, hr⟩ := F.mr.frz e2
      rw [hv] at hv'
      cases hv'
      exact hr
  · have e1 := (look_good F.good b).2 fun p hp hb => e ⟨p, hp, hb⟩
    obtain ⟨M', h1, h2, h3⟩ := MR.freeze hU F.mr (e1.trans hb)
    exact ⟨M', h1, ⟨F.le.trans h1, h2, good⟩, h3⟩

theorem frzL_run' (hU : UOk U) : ∀ {l : List (SV T)} {k : List (SV T) → List (Nat × Blk T) → RQ T α} {ws0 : List (Nat × Blk T)} {Mb : Mem}, Fz U w0 M0 s ρ M w ws0 Mb → (frzL l k).run s = some r →
    ∃ l' ws M', LeM Mb M' ∧ Fz U w0 M0 s ρ M w (ws ++ ws0) M' ∧ GoodF s ws ∧ (∀ vs, VRs U ρ M l vs → VRs U ρ M' l' vs) ∧ (k l' ws).run s = some r
  | [], k, ws0, Mb, F, h => ⟨[], [], Mb, .refl _, F, fun p hp => by simp at hp, fun vs h => h.mono F.le, h⟩
  | .own b :: l, k, ws0, Mb, F, h => by
    simp only [frzL, RQ.run] at h
    split at h
    · rename_i t xs hb
      obtain ⟨l', ws, M', hle, F', hg, hv, h⟩ := frzL_run' hU F h
      obtain ⟨M'', h1, F'', h3⟩ := F'.one hU hb
      refine ⟨.row t xs :: l', (b, .frz t xs) :: ws, M'', hle.trans h1, F'', fun p hp => ?_, fun vs hvs => ?_, h⟩
      · rcases List.mem_cons.1 hp with rfl | hp
        · exact ⟨t, xs, hb, rfl⟩
        · exact hg p hp
      · obtain ⟨v, vs', rfl, hx, hr⟩ := hvs.uncons
        cases hx with
        | own _ A n cp hρ => exact .cons (h3 _ hρ) ((hv _ hr).mono h1)
    · rename_i t xs hb
      obtain ⟨l', ws, M', hle, F', hg, hv, h⟩ := frzL_run' hU F h
      refine ⟨.row t xs :: l', ws, M', hle, F', hg, fun vs hvs => ?_, h⟩
      obtain ⟨v, vs', rfl, hx, hr⟩ := hvs.uncons
      cases hx with
      | own _ A n cp hρ =>
        have e : (s.puts (ws ++ ws0)).blk b = .frz t xs := by
          by_cases e : ∃ p ∈ ws ++ ws0, p.1 = b
          · obtain ⟨t', xs', e1, _⟩ := (look_good F'.good b).1 e
            rw [hb] at e1
            cases e1
          · rw [(look_good F'.good b).2 fun p hp hb => e ⟨p, hp, hb⟩, hb]
        obtain ⟨v', hv', _, hr'⟩ := F'.mr.frz e
        rw [hρ] at hv'
        cases hv'
        exact .cons hr' (hv _ hr)
    · simp [RQ.run] at h
  | .any :: l, k, ws0, Mb, F, h => plainF hU F rfl h (fun F h => frzL_run' hU F h)
  | .v _ :: l, k, ws0, Mb, F, h => plainF hU F rfl h (fun F h => frzL_run' hU F h)
  | .row _ _ :: l, k, ws0, Mb, F, h => plainF hU F rfl h (fun F h => frzL_run' hU F h)
  | .ptr _ _ :: l, k, ws0, Mb, F, h => plainF hU F rfl h (fun F h => frzL_run' hU F h)
  | .eptr _ _ _ _ :: l, k, ws0, Mb, F, h => plainF hU F rfl h (fun F h => frzL_run' hU F h)
  | .rptr _ _ _ _ :: l, k, ws0, Mb, F, h => plainF hU F rfl h (fun F h => frzL_run' hU F h)
  | .agg _ :: l, k, ws0, Mb, F, h => plainF hU F rfl h (fun F h => frzL_run' hU F h)
  | .tup _ :: l, k, ws0, Mb, F, h => plainF hU F rfl h (fun F h => frzL_run' hU F h)
  where
  plainF (hU : UOk U) {x : SV T} {l : List (SV T)} {k : List (SV T) → List (Nat × Blk T) → RQ T α} {ws0 : List (Nat × Blk T)} {Mb : Mem} (F : Fz U w0 M0 s ρ M w ws0 Mb) (_ : True = True) (h : (frzL l fun l w => k (x :: l) w).run s = some r)
      (ih : ∀ {k : List (SV T) → List (Nat × Blk T) → RQ T α}, Fz U w0 M0 s ρ M w ws0 Mb → (frzL l k).run s = some r → ∃ l' ws M', LeM Mb M' ∧ Fz U w0 M0 s ρ M w (ws ++ ws0) M' ∧ GoodF s ws ∧ (∀ vs, VRs U ρ M l vs → VRs U ρ M' l' vs) ∧ (k l' ws).run s = some r) :
      ∃ l' ws M', LeM Mb M' ∧ Fz U w0 M0 s ρ M w (ws ++ ws0) M' ∧ GoodF s ws ∧ (∀ vs, VRs U ρ M (x :: l) vs → VRs U ρ M' l' vs) ∧ (k l' ws).run s = some r := by
    obtain ⟨l', ws, M', hle, F', hg, hv, h⟩ := ih F h
    refine ⟨x :: l', ws, M', hle, F', hg, fun vs hvs => ?_, h⟩
    obtain ⟨v, vs', rfl, hx, hr⟩ := hvs.uncons
    exact .cons (hx.mono (.refl _) F'.le) (hv _ hr)

theorem Fz.swap {ws ws' ws0 : List (Nat × Blk T)} {M' : Mem} (F : Fz U w0 M0 s ρ M w (ws' ++ (ws ++ ws0)) M') : Fz U w0 M0 s ρ M w ((ws ++ ws') ++ ws0) M' := by
  have good : GoodF s ((ws ++ ws') ++ ws0) := fun p hp => F.good p (by simp at hp ⊢; grind)
  exact ⟨F.le, mr_congr F.mr fun b => (look_swap F.good good (fun b => by constructor <;> (rintro ⟨p, hp, e⟩; exact ⟨p, by simp at hp ⊢; grind, e⟩)) b).symm, good⟩

theorem argL_run (hU : UOk U) : ∀ {l : List (SV T)} {k : List (SV T) → List (Nat × Blk T) → RQ T α} {ws0 : List (Nat × Blk T)} {Mb : Mem}, Fz U w0 M0 s ρ M w ws0 Mb → (argL l k).run s = some r →
    ∃ l' ws M', LeM Mb M' ∧ Fz U w0 M0 s ρ M w (ws ++ ws0) M' ∧ GoodF s ws ∧ (∀ vs, VRs U ρ M l vs → VRs U ρ M' l' vs) ∧ (k l' ws).run s = some r
  | [], k, ws0, Mb, F, h => ⟨[], [], Mb, .refl _, F, fun p hp => by simp at hp, fun vs h => h.mono F.le, h⟩
  | x :: l, k, ws0, Mb, F, h => by
    by_cases hx : ∃ q, x = .agg q
    · obtain ⟨q, rfl⟩ := hx
      simp only [argL] at h
      obtain ⟨q', ws, M1, h1, F1, g1, v1, h⟩ := frzL_run' hU F h
      obtain ⟨l', ws', M2, h2, F2, g2, v2, h⟩ := argL_run hU F1 h
      refine ⟨.agg q' :: l', ws ++ ws', M2, h1.trans h2, F2.swap, fun p hp => ?_, fun vs hvs => ?_, h⟩
      · rcases List.mem_append.1 hp with hp | hp
        · exact g1 p hp
        · exact g2 p hp
      · obtain ⟨v, vs', rfl, hx, hr⟩ := hvs.uncons
        cases hx with
        | agg _ us hl hf hu =>
          have := v1 us ⟨hl, hu⟩
          exact .cons ((VR.agg q' us this.1 hf this.2).mono (.refl _) h2) (v2 _ hr)
    · have h' : (frzL [x] fun l' w' => argL l fun q w => k (l' ++ q) (w' ++ w)).run s = some r := by
        cases x with
        | agg q => exact absurd ⟨q, rfl⟩ hx
        | _ => exact h
      obtain ⟨q', ws, M1, h1, F1, g1, v1, h⟩ := frzL_run' hU F h'
      obtain ⟨l', ws', M2, h2, F2, g2, v2, h⟩ := argL_run hU F1 h
      refine ⟨q' ++ l', ws ++ ws', M2, h1.trans h2, F2.swap, fun p hp => ?_, fun vs hvs => ?_, h⟩
      · rcases List.mem_append.1 hp with hp | hp
        · exact g1 p hp
        · exact g2 p hp
      · obtain ⟨v, vs', rfl, hx, hr⟩ := hvs.uncons
        have hq := v1 [v] (.cons hx ⟨rfl, fun i h => by simp at h⟩)
        cases q' with
        | nil => have := hq.1; simp at this
        | cons y q' =>
          cases q' with
          | nil => exact .cons ((hq.2 0 (by simp) (by simp)).mono (.refl _) h2) (v2 _ hr)
          | cons z q' => have := hq.1; simp at this
end
end Go.Sx
