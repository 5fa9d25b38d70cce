/- An evaluator of the model's code over symbolic values, and its soundness: part 7. No condition. -/
import Derived.Test.YtecniihieninjaaSyH
set_option linter.unusedVariables false
set_option linter.unusedSimpArgs false
namespace Go.Sx
open Go.RowKit
variable {T : Nat → Type} {U : Univ T} {P : Program}

section
variable {w0 : Frm} {M0 : Mem} {nt nid : Nat} {s : St T} {a : Act} {w : World} {ρ : Nat → Option Value} {M : Mem} {c : Step T} {o : Oper} {Tb : Calls_ T} {α : Type 1} {r : α}

theorem M_fresh (R : Rl U w0 M0 nt s nid a w ρ M) {g : Nat} (h : w.heap.size ≤ g) : Free M g := R.mr.fresh h

theorem own_block_lt {base t sz n : Nat} {v : Value} {cl : List Value} (h : w.ownsRow base t sz v n cl) {g : Nat} (hg : blockOf v = some g) : v.ownBlock = some g ∧ base ≤ g ∧ g < w.heap.size := by
  rcases h.2 with ⟨rfl, _⟩ | ⟨g', cap, cur, rfl, hb, hh, _⟩
  · cases hg
  · simp only [blockOf, Option.some.injEq] at hg
    subst hg
    exact ⟨rfl, hb, (Array.getElem?_eq_some_iff.1 hh).1⟩

theorem blk_put2 (s : St T) (b b2 : Nat) (k k2 : Blk T) (b' : Nat) : (s.puts [(b, k), (b2, k2)]).blk b' = if b = b' then k else if b2 = b' then k2 else s.blk b' := by
  have := blk_put1 (s.puts [(b2, k2)]) b k b'
  rw [blk_put1 s b2 k2] at this
  exact this

def deadL (b : Option Nat) : List (Nat × Blk T) := match b with | some b => [(b, .dead)] | none => []

/-- A row that has grown: the old one is dead. -/
theorem Post.grown (R : Rl U w0 M0 nt s nid a w ρ M) {b : Option Nat} {v v' : Value} {t : Nat} {zs : List (T t)} {cl : List Value} {w' : World}
    (hb : ∀ b', b = some b' → ρ b' = some v ∧ (s.blk b').live = true) (hn : b = none → v.ownBlock = none)
    (hM : ∀ g, v.ownBlock = some g → Free M g) (hbase : ∀ g, v.ownBlock = some g → w0.own g) (hvb : blockOf v = v.ownBlock)
    (hown : w'.ownsRow 0 t (U.sz t) v' zs.length cl) (hcr : CR U ρ M (zs.flatMap (U.enc t)) cl) (hg : w.grownBy w' v.ownBlock) (hat : v'.ownBlock = v.ownBlock ∨ v'.ownBlock = some w.heap.size) :
    Post U w0 M0 s nid ρ M (.own nid) (deadL b ++ [(nid, .arr t zs)]) v' w' := by
  have hnid : ρ nid = none := R.nw nid (Nat.le_refl _) (by omega)
  have hle : LeR ρ (updR ρ nid v') := LeR.upd hnid
  have hblk : ∀ b', (s.puts (deadL b ++ [(nid, .arr t zs)])).blk b' = if b = some b' then .dead else if nid = b' then .arr t zs else s.blk b' := by
    intro b'
    cases b with
    | none => simp only [deadL, List.nil_append]; rw [blk_put1]; simp
    | some b1 => simp only [deadL, List.singleton_append]; rw [blk_put2]; simp
  have hne : ∀ b', b = some b' → b' ≠ nid := fun b' e h => by
    have := (hb b' e).1
    rw [h, hnid] at this
    cases this
  have hMv' : ∀ g, v'.ownBlock = some g → Free M g := by
    intro g hg'
    rcases hat with e | e
    · exact hM g (e ▸ hg')
    · rw [e] at hg'
      cases hg'
      exact M_fresh R (Nat.le_refl _)
  refine ⟨updR ρ nid v', M, hle, .refl _, fun b' h hb' => by unfold updR; rw [if_neg (by omega)]; exact hb', ?_, ?_⟩
  · refine R.mr.step (fun b' => b = some b' ∨ b' = nid) (R.mr.fr.grown hg hbase) hle (.refl _) (R.mr.same fun B hB g x hx => hg.block g (R.mr.bpw.lt hB hx) (fun e => by have := (hM g e.symm).2 B hB; rw [hx] at this; cases this)) (fun _ _ _ => rfl) ?_ ?_ ?_ ?_
    · intro g o u hu
      have hc := R.mr.sub _ _ _ hu
      refine hg.cell hc ?_
      intro e
      rw [(hM g e.symm).1 o] at hu
      cases hu
    · intro b' hb'
      refine ⟨?_, fun v1 g1 hl hv1 hg1 => ⟨hg.block g1 (R.mr.lt hl hv1 hg1).1 ?_, .refl _ _⟩⟩
      · rw [hblk, if_neg (fun e => hb' (.inl e)), if_neg (fun e => hb' (.inr e.symm))]
      · intro e
        cases hbb : b with
        | none => rw [hn hbb] at e; cases e
        | some b1 =>
          obtain ⟨h1, h2⟩ := hb b1 hbb
          have := R.mr.inj b' b1 v1 v g1 hl h2 hv1 h1 hg1 (by rw [hvb]; exact e.symm)
          subst this
          exact hb' (.inl hbb)
    · intro b' hb'
      by_cases e : b = some b'
      · exact .inl (by rw [hblk, if_pos e])
      · have e2 : b' = nid := hb'.resolve_left e
        subst e2
        refine .inr ⟨v', by simp [updR], ?_⟩
        rw [hblk, if_neg e, if_pos rfl]
        exact ⟨cl, hown, hcr.mono hle (.refl _), hMv', fun g hg' => by
          rcases hat with e | e
          · exact hbase g (e ▸ hg')
          · rw [e] at hg'
            cases hg'
            exact .inl R.mr.fr.size⟩
    · have key : ∀ b' v1 g, ((s.puts (deadL b ++ [(nid, .arr t zs)])).blk b').live = true → updR ρ nid v' b' = some v1 → blockOf v1 = some g →
          (b' = nid ∧ v'.ownBlock = some g) ∨ (b' ≠ nid ∧ b ≠ some b' ∧ (s.blk b').live = true ∧ ρ b' = some v1 ∧ g < w.heap.size) := by
        intro b' v1 g hl hv1 hg1
        rw [hblk] at hl
        by_cases e0 : b = some b'
        · rw [if_pos e0] at hl; cases hl
        · rw [if_neg e0] at hl
          by_cases e : b' = nid
          · refine .inl ⟨e, ?_⟩
            simp [updR, e] at hv1
            subst hv1
            exact (own_block_lt hown hg1).1
          · rw [if_neg (Ne.symm e)] at hl
            simp [updR, e] at hv1
            exact .inr ⟨e, e0, hl, hv1, (R.mr.lt hl hv1 hg1).1⟩
      have no : ∀ b' v1 g, v'.ownBlock = some g → b ≠ some b' → (s.blk b').live = true → ρ b' = some v1 → g < w.heap.size → blockOf v1 = some g → False := by
        intro b' v1 g e hne hl hv1 hlt hg1
        rcases hat with e2 | e2
        · rw [e2] at e
          cases hbb : b with
          | none => rw [hn hbb] at e; cases e
          | some b1 =>
            obtain ⟨h1, h2⟩ := hb b1 hbb
            have := R.mr.inj b' b1 v1 v g hl h2 hv1 h1 hg1 (by rw [hvb]; exact e)
            subst this
            exact hne hbb
        · rw [e2] at e
          simp only [Option.some.injEq] at e
          omega
      intro b1 b2 v1 v2 g h1 h2 e1 e2 g1 g2
      rcases key b1 v1 g h1 e1 g1 with ⟨x, y⟩ | ⟨x, n1, l1, r1, y⟩ <;> rcases key b2 v2 g h2 e2 g2 with ⟨x', y'⟩ | ⟨x', n2, l2, r2, y'⟩
      · rw [x, x']
      · exact (no b2 v2 g y n2 l2 r2 y' g2).elim
      · exact (no b1 v1 g y' n1 l1 r1 y g1).elim
      · exact R.mr.inj b1 b2 v1 v2 g l1 l2 r1 r2 g1 g2
  · obtain ⟨A, cap, e⟩ : ∃ A cap, v' = .slice A zs.length cap := by
      rcases hown.2 with ⟨rfl, h0⟩ | ⟨g, cap, cur, rfl, _⟩
      · exact ⟨none, 0, by rw [h0]⟩
      · exact ⟨_, _, rfl⟩
    subst e
    exact .own _ _ _ _ (by simp [updR])

theorem byOf_eq {t : Nat} {i : TypeInfo} (h : P.info? t = some i) : byOf P t = i.bytes := by simp [byOf, h]

/-- append, over what has been read. -/
theorem append_run (hU : UOk U) (R : Rl U w0 M0 nt s nid a w ρ M) {t te : Nat} {i : TypeInfo} {zc : List (SV T)} (hu : P.underlying t = some (.slice te)) (hi : P.info? te = some i) (hsz : i.size = U.sz te)
    (hz : zeroC P te = some zc) (hzl : zc.length = U.sz te) (h0 : 0 < U.sz te) (hb0 : 0 < byOf P te) {xs ys : List (T te)} {v vy : Value} {cl : List Value} {ty : Nat}
    (hown : w.ownsRow 0 te (U.sz te) v xs.length cl) (hcr : CR U ρ M (xs.flatMap (U.enc te)) cl) (hy : RowR U ρ M w te ys vy) (hle : (xs.length + ys.length) * byOf P te ≤ 140737488355328) :
    ∃ v' w' cl', (Builtin.append_ #[t, t] ty #[v, vy]).run P w = .ok v' w' ∧ w'.ownsRow 0 te (U.sz te) v' (xs ++ ys).length cl' ∧ CR U ρ M ((xs ++ ys).flatMap (U.enc te)) cl' ∧
      w.grownBy w' v.ownBlock ∧ (v'.ownBlock = v.ownBlock ∨ v'.ownBlock = some w.heap.size) := by
  obtain ⟨i', z, hi', hz', rfl, h1z⟩ := zero_run hz
  rw [hi] at hi'
  cases hi'
  obtain ⟨⟨A, cap, rfl, hnil⟩, cy, hcy, hcell⟩ := hy
  rw [byOf_eq hi] at hle hb0
  have hlen : xs.length + ys.length ≤ 140737488355328 := Nat.le_trans (Nat.le_mul_of_pos_right _ hb0) hle
  cases A with
  | none =>
    obtain ⟨rfl, rfl⟩ := hnil rfl
    refine ⟨v, w, cl, run_append_owned_none (P := P) w 0 t ty te i (U.sz te) hu hi v xs.length cl hown, ?_, ?_, ⟨rfl, rfl, rfl, Nat.le_refl _, fun _ _ _ => rfl⟩, .inl rfl⟩
    · simpa using hown
    · simpa using hcr
  | some ad =>
    obtain ⟨v', w', hr, ho', hg, _, hat⟩ := run_append_own_at (P := P) w 0 t ty te i z (U.sz te) i.bytes hu hi hz' hsz rfl (by simpa using hzl) h0 v xs.length cl hown ad ys.length cap cy
      (by rw [← hcy.len, flat_len hU]) (hcell ad _ _ rfl) hcy.one (by simp only [maxLen]; omega) hle (Nat.zero_le _)
    refine ⟨v', w', cl ++ cy, hr, by simpa using ho', ?_, hg, hat⟩
    rw [List.flatMap_append]
    exact hcr.append hcy

/-- A row whose block is known whole lies in its block from the front on. -/
theorem em_owns (hU : UOk U) (R : Rl U w0 M0 nt s nid a w ρ M) {te : Nat} {B : Nat → Option (Nat × Nat)} (hB : M.bp = some B) (hem : U.em = some te) {xs : List (T te)} {v : Value} (hv : VR U ρ M (.row te xs) v) :
    ∃ cl, w.ownsRow 0 te (U.sz te) v xs.length cl ∧ CR U ρ M (xs.flatMap (U.enc te)) cl ∧ ∀ g, v.ownBlock = some g → (∃ x, B g = some x) ∧ ∀ o u, M g o = some u → o < xs.length * U.sz te := by
  obtain ⟨⟨A, cap, hvA, hnil⟩, cl, hcl, hcell⟩ := RowR.of_row hU R.mr.sub hv
  cases hv with
  | row _ _ A' c f hc h0 hs hm hf hv' he =>
    cases hvA
    cases A with
    | none =>
      obtain ⟨rfl, rfl⟩ := hnil rfl
      have : cl = [] := by
        have := hcl.len
        simp at this
        exact List.eq_nil_of_length_eq_zero this.symm
      subst this
      exact ⟨[], World.ownsRow_nil w 0 te (U.sz te), .nil, fun g hg => by cases hg⟩
    | some ad =>
      obtain ⟨e1, e2, e3⟩ := he B hB hem ad rfl
      obtain ⟨e, he', hk⟩ := R.mr.bpw B hB
      rw [hem] at he'
      cases he'
      obtain ⟨cur, k1, k2, k3, k4, k5⟩ := hk ad.block xs.length cap e1
      have hlen : cl.length = xs.length * U.sz te := by rw [← hcl.len, flat_len hU]
      have had : ad = ⟨ad.block, 0, none⟩ := by rw [addr_eta e3, e2]
      have hle : xs.length * U.sz te ≤ cur.size := by rw [k2]; exact Nat.mul_le_mul_right _ k3
      have htake : cur.toList.take (xs.length * U.sz te) = cl := by
        refine List.ext_getElem (by rw [List.length_take, hlen, Array.length_toList]; exact Nat.min_eq_left hle) fun j h1 h2 => ?_
        have h3 := hcell ad _ _ rfl j cl[j] (List.getElem?_eq_getElem h2)
        rw [had, add_at, Nat.zero_add, cell_of_row w _ j cur te (0, 0) k1] at h3
        rw [List.getElem_take]
        have hj : j < cur.size := by
          have h4 := h2
          rw [hlen] at h4
          exact Nat.lt_of_lt_of_le h4 hle
        rw [Array.getElem?_eq_getElem hj] at h3
        simpa using h3
      refine ⟨cl, ⟨hlen, .inr ⟨ad.block, cap, cur, by rw [← had], Nat.zero_le _, k1, k3, k4, k2, htake⟩⟩, hcl, fun g hg => ?_⟩
      simp only [Value.ownBlock, Option.some.injEq] at hg
      subst hg
      refine ⟨⟨_, e1⟩, fun o u hu => ?_⟩
      rcases Nat.lt_or_ge o (xs.length * U.sz te) with h | h
      · exact h
      · rw [k5 o h] at hu
        cases hu

/-- append to such a row. -/
theorem append_em (hU : UOk U) (R : Rl U w0 M0 nt s nid a w ρ M) {t te : Nat} {i : TypeInfo} {zc : List (SV T)} (hu : P.underlying t = some (.slice te)) (hi : P.info? te = some i) (hsz : i.size = U.sz te)
    (hz : zeroC P te = some zc) (hzl : zc.length = U.sz te) (h0 : 0 < U.sz te) (hb0 : 0 < byOf P te) {B : Nat → Option (Nat × Nat)} (hB : M.bp = some B) (hem : U.em = some te) {xs ys : List (T te)} {v vy : Value} {ty : Nat}
    (hv : VR U ρ M (.row te xs) v) (hy : RowR U ρ M w te ys vy) (hle : (xs.length + ys.length) * byOf P te ≤ 140737488355328) :
    ∃ v' w' cl' row, (Builtin.append_ #[t, t] ty #[v, vy]).run P w = .ok v' w' ∧ w'.ownsRow 0 te (U.sz te) v' (xs ++ ys).length cl' ∧ CR U ρ M ((xs ++ ys).flatMap (U.enc te)) cl' ∧
      w.grownBy w' row ∧ (v'.ownBlock = row ∨ (row = none ∧ v'.ownBlock = some w.heap.size)) ∧
      ∀ g, row = some g → (∃ x, B g = some x) ∧ ∀ o u, M g o = some u → w'.cell? ⟨g, o, none⟩ = some u ∧ o < (xs ++ ys).length * U.sz te := by
  obtain ⟨cl, hown, hcr, hbk⟩ := em_owns hU R hB hem hv
  obtain ⟨i', z, hi', hz', rfl, h1z⟩ := zero_run hz
  rw [hi] at hi'
  cases hi'
  obtain ⟨⟨A, cap, rfl, hnil⟩, cy, hcy, hcell⟩ := hy
  rw [byOf_eq hi] at hle hb0
  have hlen : xs.length + ys.length ≤ 140737488355328 := Nat.le_trans (Nat.le_mul_of_pos_right _ hb0) hle
  have grow0 : w.grownBy w none := ⟨rfl, rfl, rfl, Nat.le_refl _, fun _ _ _ => rfl⟩
  cases A with
  | none =>
    obtain ⟨rfl, rfl⟩ := hnil rfl
    refine ⟨v, w, cl, v.ownBlock, run_append_owned_none (P := P) w 0 t ty te i (U.sz te) hu hi v xs.length cl hown, by simpa using hown, by simpa using hcr, ⟨rfl, rfl, rfl, Nat.le_refl _, fun _ _ _ => rfl⟩, .inl rfl, fun g hg => ?_⟩
    obtain ⟨k1, k2⟩ := hbk g hg
    exact ⟨k1, fun o u hu => ⟨R.mr.sub _ _ _ hu, by simpa using k2 o u hu⟩⟩
  | some ad =>
    have hlcy : cy.length = ys.length * U.sz te := by rw [← hcy.len, flat_len hU]
    obtain ⟨v', w', hr, ho', hg, _, hat⟩ := run_append_own_at (P := P) w 0 t ty te i z (U.sz te) i.bytes hu hi hz' hsz rfl (by simpa using hzl) h0 v xs.length cl hown ad ys.length cap cy
      hlcy (hcell ad _ _ rfl) hcy.one (by simp only [maxLen]; omega) hle (Nat.zero_le _)
    have ho2 : w'.ownsRow 0 te (U.sz te) v' (xs ++ ys).length (cl ++ cy) := by simpa using ho'
    have hcr2 : CR U ρ M ((xs ++ ys).flatMap (U.enc te)) (cl ++ cy) := by
      rw [List.flatMap_append]
      exact hcr.append hcy
    have hown2 := hown
    rcases hown.2 with ⟨e, _⟩ | ⟨g, capg, cur, rfl, _, hgc, hnc, hcm, hcs, htake⟩
    · subst e
      exact ⟨v', w', cl ++ cy, none, hr, ho2, hcr2, hg, hat.imp id fun h => ⟨rfl, h⟩, fun g hg => by cases hg⟩
    · obtain ⟨k1, k2⟩ := hbk g rfl
      by_cases hroom : xs.length + ys.length ≤ capg
      · have hin : v'.ownBlock = some g := by
          have hfit : xs.length * i.size + cy.length ≤ cur.size := by rw [hlcy, hsz, hcs, ← Nat.add_mul]; exact Nat.mul_le_mul_right _ hroom
          have hr2 := run_append_room (P := P) w t ty te i hu hi g xs.length capg cur hgc ad ys.length cap cy (by rw [hlcy, hsz]) (hcell ad _ _ rfl) hcy.one hroom hfit
          rw [hr] at hr2
          cases hr2
          rfl
        refine ⟨v', w', cl ++ cy, some g, hr, ho2, hcr2, hg, .inl hin, fun g' hg' => ?_⟩
        cases hg'
        refine ⟨k1, fun o u hu => ?_⟩
        have h3 := k2 o u hu
        have hlcl : cl.length = xs.length * U.sz te := hown2.1
        have h4 : (cl ++ cy)[o]? = some u := by
          rw [List.getElem?_append_left (by omega)]
          have h5 := R.mr.sub _ _ _ hu
          rw [cell_of_row w g o cur te (0, 0) hgc] at h5
          rw [← htake, List.getElem?_take, if_pos h3]
          simpa using h5
        have h6 := ho2.cells (g := g) hin o u h4
        rw [add_at, Nat.zero_add] at h6
        refine ⟨h6, ?_⟩
        rw [List.length_append, Nat.add_mul]
        omega
      · have holds : ∀ j u, cl[j]? = some u → w.cell? ((⟨g, 0, none⟩ : Addr).add j) = some u := hown2.cells (g := g) rfl
        have hr2 := run_append_grow (P := P) w t ty te i z hu hi hz' ⟨g, 0, none⟩ xs.length capg cl (by rw [hown2.1, hsz]) holds ad ys.length cap cy (by rw [hlcy, hsz]) (hcell ad _ _ rfl) (by omega) (by simp only [maxLen] at *; omega) (growslice_fits (by omega) hle)
        rw [hr] at hr2
        cases hr2
        exact ⟨_, _, cl ++ cy, none, hr, ho2, hcr2, ⟨rfl, rfl, rfl, by simp, fun k hk _ => heap_alloc_old w.drew _ hk⟩, .inr ⟨rfl, rfl⟩, fun g hg => by cases hg⟩

/-- A row of one's own, told as a row that stands still. -/
theorem VR.of_owns (hU : UOk U) {M : Mem} {t : Nat} {xs : List (T t)} {v : Value} {cl : List Value} (hown : w.ownsRow 0 t (U.sz t) v xs.length cl) (hcr : CR U ρ M (xs.flatMap (U.enc t)) cl)
    (hp : ∀ g, v.ownBlock = some g → ∀ j u, cl[j]? = some u → M g j = some u) (hb : M.bp = none) : VR U ρ M (.row t xs) v := by
  have hlen : cl.length = xs.length * U.sz t := hown.1
  have hidx : ∀ i (hi : i < xs.length) j, j < (U.enc t xs[i]).length → i * U.sz t + j < cl.length := by
    intro i hi j hj
    rw [hU.len] at hj
    rw [hlen]
    have := Nat.mul_le_mul_right (U.sz t) (show i + 1 ≤ xs.length from hi)
    rw [Nat.succ_mul] at this
    omega
  have hgo : ∀ A cap, v = .slice A xs.length cap → xs.length ≤ cap → (A = none → xs = [] ∧ cap = 0) → (∀ ad, A = some ad → ad.spot = none ∧ v.ownBlock = some ad.block ∧ ad.off = 0) → VR U ρ M (.row t xs) v := by
    intro A cap e hc h0 hs
    rw [e]
    refine .row t xs A cap (fun i j => cl.getD (i * U.sz t + j) undef) hc h0 (fun ad ha _ => (hs ad ha).1) (fun ad ha i hi j hj => ?_) (fun i hi j hj => ?_) (fun i hi j hj => ?_) (fun B hB => by rw [hb] at hB; cases hB)
    · have hk := hidx i hi j hj
      obtain ⟨_, h2, h3⟩ := hs ad ha
      rw [h3, Nat.zero_add, List.getD_eq_getElem?_getD, List.getElem?_eq_getElem hk]
      exact hp _ h2 _ _ (List.getElem?_eq_getElem hk)
    · have hk := hidx i hi j hj
      rw [List.getD_eq_getElem?_getD, List.getElem?_eq_getElem hk]
      exact hcr.one _ (List.getElem_mem hk)
    · have hk := hidx i hi j hj
      have hel := hcr.elem hU hi
      have h2 : j < ((cl.drop (i * U.sz t)).take (U.sz t)).length := by rw [← hel.len]; exact hj
      have := hel.at_ j hj h2
      simpa [List.getD_eq_getElem?_getD, List.getElem?_eq_getElem hk] using this
  rcases hown.2 with ⟨e, h0⟩ | ⟨g, cap, cur, e, _, _, hnc, _⟩
  · exact hgo none 0 (by rw [e, h0]) (by omega) (fun _ => ⟨List.eq_nil_of_length_eq_zero h0, rfl⟩) (fun ad ha => by cases ha)
  · exact hgo _ cap e hnc (fun e => by cases e) (fun ad ha => by cases ha; exact ⟨rfl, by rw [e]; rfl, rfl⟩)

/-- Behind that append the known blocks are forgotten. -/
theorem Post.em (hU : UOk U) (R : Rl U w0 M0 nt s nid a w ρ M) {mcs : List (Cell T)} (hmk : s.blk MKB = .mark mcs) {te : Nat} {B : Nat → Option (Nat × Nat)} (hB : M.bp = some B) {zs : List (T te)} {v' : Value} {w' : World} {cl' : List Value} {row : Option Nat}
    (hown : w'.ownsRow 0 te (U.sz te) v' zs.length cl') (hcr : CR U ρ M (zs.flatMap (U.enc te)) cl') (hg : w.grownBy w' row) (hat : v'.ownBlock = row ∨ (row = none ∧ v'.ownBlock = some w.heap.size))
    (hrow : ∀ g, row = some g → (∃ x, B g = some x) ∧ ∀ o u, M g o = some u → w'.cell? ⟨g, o, none⟩ = some u ∧ o < zs.length * U.sz te) :
    Post U w0 M0 s nid ρ M (.row te zs) [(MKB, .dead)] v' w' := by
  obtain ⟨hkeep, _, hB0⟩ := R.mr.mrk _ hmk
  have hro : ∀ g, row = some g → w0.own g := by
    intro g e
    obtain ⟨⟨x, hx⟩, _⟩ := hrow g e
    rcases R.mr.bpo B hB g x hx with ⟨B1, h1, h2⟩ | h
    · exact (hB0 B1 g x h1 h2).elim
    · exact h
  have hvo : ∀ g, v'.ownBlock = some g → w0.own g ∧ (row = some g ∨ w.heap.size ≤ g) := by
    intro g e
    rcases hat with h | ⟨_, h⟩
    · exact ⟨hro g (h ▸ e), .inl (h ▸ e)⟩
    · rw [h] at e
      cases e
      exact ⟨.inl R.mr.fr.size, .inr (Nat.le_refl _)⟩
  let M' : Mem := ⟨fun g o => if v'.ownBlock = some g ∧ o < zs.length * U.sz te then w'.cell? ⟨g, o, none⟩ else M g o, none, M.hp⟩
  have hle : LeM M M' := by
    refine ⟨fun g o u hu => ?_, fun B' h => (by cases h), fun _ _ h => h⟩
    show (if v'.ownBlock = some g ∧ o < zs.length * U.sz te then w'.cell? ⟨g, o, none⟩ else M g o) = some u
    split
    · rename_i hc
      rcases (hvo g hc.1).2 with h | h
      · exact ((hrow g h).2 o u hu).1
      · rw [(R.mr.fresh h).1 o] at hu
        cases hu
    · exact hu
  have hblk : ∀ b, (s.puts [(MKB, .dead)]).blk b = if MKB = b then .dead else s.blk b := fun b => blk_put1 s MKB .dead b
  have hlive : ∀ b, ((s.puts [(MKB, .dead)]).blk b).live = true → (s.blk b).live = true ∧ MKB ≠ b := by
    intro b hl
    rw [hblk] at hl
    split at hl
    · cases hl
    · rename_i e; exact ⟨hl, e⟩
  have hkeepb : ∀ b v1 g1, (s.blk b).live = true → ρ b = some v1 → blockOf v1 = some g1 → w'.heap[g1]? = w.heap[g1]? ∧ SameAt M M' g1 := by
    intro b v1 g1 hl hv1 hg1
    have hlt := (R.mr.lt hl hv1 hg1).1
    have hfree : B g1 = none := by
      rcases R.mr.blk b with d | ⟨_, d⟩ | ⟨v2, hv2, hBR⟩
      · rw [d] at hl; cases hl
      · rw [d] at hl; cases hl
      · rw [hv1] at hv2
        cases hv2
        cases hk : s.blk b with
        | dead => rw [hk] at hl; cases hl
        | mark cs => rw [hk] at hl; cases hl
        | frz t xs => rw [hk] at hl; cases hl
        | cells t cs =>
          rw [hk] at hBR
          obtain ⟨g', vs, rfl, _, _, _, hf⟩ := hBR
          simp only [blockOf, Option.some.injEq] at hg1
          subst hg1
          exact hf.2 B hB
        | arr t xs =>
          rw [hk] at hBR
          obtain ⟨cl, ho, _, hf, _⟩ := hBR
          exact (hf g1 (own_block_lt ho hg1).1).2 B hB
    have hne : row ≠ some g1 := fun e => by
      obtain ⟨⟨x, hx⟩, _⟩ := hrow g1 e
      rw [hfree] at hx
      cases hx
    refine ⟨hg.block g1 hlt (fun e => hne e.symm), fun o => ?_, fun B' h => by cases h⟩
    show (if v'.ownBlock = some g1 ∧ o < zs.length * U.sz te then w'.cell? ⟨g1, o, none⟩ else M g1 o) = M g1 o
    rw [if_neg]
    rintro ⟨e, _⟩
    rcases (hvo g1 e).2 with h | h
    · exact hne h
    · omega
  have hM'b : M'.bp = none := rfl
  refine ⟨ρ, M', .refl _, hle, fun _ _ h => h, ⟨R.mr.fr.grown hg hro, R.mr.pin, R.mr.m0.trans hle, fun b o hb => ?_, fun b o u hu => ?_, fun b => ?_, fun b1 b2 v1 v2 g h1 h2 e1 e2 g1 g2 => R.mr.inj b1 b2 v1 v2 g (hlive _ h1).1 (hlive _ h2).1 e1 e2 g1 g2, BpOk.none_ hM'b, (fun B' h => by rw [hM'b] at h; cases h), (fun h => by rw [hkeep] at h; cases h), (fun _ h => by rw [hblk, if_pos rfl] at h; cases h), fun _ => hM'b, R.mr.hpo⟩, ?_⟩
  · show (if v'.ownBlock = some b ∧ o < zs.length * U.sz te then w'.cell? ⟨b, o, none⟩ else M b o) = M0 b o
    rw [if_neg (fun hc => hb (hvo b hc.1).1)]
    exact R.mr.mo b o hb
  · change (if v'.ownBlock = some b ∧ o < zs.length * U.sz te then w'.cell? ⟨b, o, none⟩ else M b o) = some u at hu
    split at hu
    · exact hu
    · by_cases e : row = some b
      · exact ((hrow b e).2 o u hu).1
      · exact hg.cell (R.mr.sub _ _ _ hu) (fun h => e h.symm)
  · rw [hblk]
    split
    · exact .inl rfl
    · rcases R.mr.blk b with d | ⟨_, d⟩ | ⟨v1, hv1, hBR⟩
      · exact .inl d
      · exact .inr (.inl ⟨_, d⟩)
      · exact .inr (.inr ⟨v1, hv1, hBR.mono (.refl _) hle fun hl g1 hg1 => hkeepb b v1 g1 hl hv1 hg1⟩)
  · refine VR.of_owns hU hown (hcr.mono (.refl _) hle) (fun g hg' j u hj => ?_) hM'b
    show (if v'.ownBlock = some g ∧ j < zs.length * U.sz te then w'.cell? ⟨g, j, none⟩ else M g j) = some u
    have hlj : j < zs.length * U.sz te := by
      have := (List.getElem?_eq_some_iff.1 hj).1
      have h2 : cl'.length = zs.length * U.sz te := hown.1
      omega
    rw [if_pos ⟨hg', hlj⟩]
    have := hown.cells (g := g) hg' j u hj
    rwa [add_at, Nat.zero_add] at this

theorem good_append (hU : UOk U) (R : Rl U w0 M0 nt s nid a w ρ M) {q : Call} (ho : o.op = .call q) (hq : q.callee = .builtin .append)
    (h : (opQ P U Tb nid (.call q)).run s = some c) : Good P U w0 M0 s nid ρ M a w o c := by
  simp only [opQ, hq] at h
  split at h
  · rename_i t0 t1 hts
    split at h
    · rename_i ht
      have ht' := beq_eq ht
      subst ht'
      obtain ⟨te, i, hu, hi, hsz, h⟩ := elemQ_run h
      obtain ⟨zc, hz, h⟩ := optQ_run h
      split at h
      · rename_i hchk
        simp only [Bool.and_eq_true] at hchk
        obtain ⟨hz1, hz2, hz3⟩ := hchk
        have hzl : zc.length = U.sz te := beq_eq hz1
        have h0 : 0 < U.sz te := by simpa [Nat.blt_eq] using hz2
        have hb0 : 0 < byOf P te := by simpa [Nat.blt_eq] using hz3
        have hargs : q.argTypes = #[t0, t0] := by
          have : q.argTypes = q.argTypes.toList.toArray := by simp
          rw [this, hts]
        obtain ⟨l, hl, h⟩ := rdOs_run h
        have run : ∀ x y v v' w', a.eval x = v → q.args.map a.eval = #[a.eval x, a.eval y] → (Builtin.append_ #[t0, t0] o.type #[v, a.eval y]).run P w = .ok v' w' → (execOp a.eval o).run P w = .ok (.value v') w' := by
          intro x y v v' w' hx he hr
          refine call_run ho hq fun cs => ?_
          simp only [Go.builtin, he, hargs, hx]
          exact run_v hr
        split at h
        · obtain ⟨x, y, hxy, vx, vy⟩ := args2 hl R
          split at h
          · rename_i b
            simp only [RQ.run] at h
            split at h
            · rename_i t xs hb
              split at h
              · rename_i hte
                have hte' := beq_eq hte
                subst hte'
                obtain ⟨ys, hys, h⟩ := rowQ_run hU R vy h
                simp only [RQ.run, Option.some.injEq] at h
                subst h
                intro hc _ _
                have hle : (xs.length + ys.length) * byOf P t ≤ 140737488355328 := by simpa [Step.if_] using hc
                obtain ⟨v, hρ, cl, hown, hcr, hM⟩ := R.mr.arr hb
                generalize hxe : a.eval x = xv at vx
                cases vx with
                | own _ A n cp hρ' =>
                  rw [hρ] at hρ'
                  cases hρ'
                  obtain ⟨v', w', cl', hr, ho', hcr', hg, hat⟩ := append_run (P := P) (ty := o.type) hU R hu hi hsz hz hzl h0 hb0 hown hcr hys hle
                  refine .val (run x y _ v' w' hxe hxy hr) ?_
                  refine Post.grown R (b := some b) (fun b' e => ?_) (fun e => by cases e) hM (fun g hg' => R.mr.arr_own hb hρ hg') ?_ ho' hcr' hg hat
                  · cases e
                    exact ⟨hρ, by rw [hb]; rfl⟩
                  · cases A <;> rfl
              · simp [RQ.run] at h
            · simp [RQ.run] at h
          · obtain ⟨ys, hys, h⟩ := rowQ_run hU R vy h
            simp only [RQ.run, Option.some.injEq] at h
            subst h
            intro hc _ _
            have hle : ys.length * byOf P te ≤ 140737488355328 := by simpa [Step.if_] using hc
            generalize hxe : a.eval x = xv at vx
            cases vx
            obtain ⟨v', w', cl', hr, ho', hcr', hg, hat⟩ := append_run (P := P) (ty := o.type) hU R hu hi hsz hz hzl h0 hb0 (xs := ([] : List (T te))) (World.ownsRow_nil w 0 te (U.sz te)) .nil hys (by simpa using hle)
            refine .val (run x y _ v' w' hxe hxy hr) ?_
            refine Post.grown R (b := none) (v := .slice none 0 0) (fun b' e => by cases e) (fun _ => rfl) (fun g hg' => by cases hg') (fun g hg' => by cases hg') rfl ho' hcr' hg hat
          · rename_i t xs
            split at h
            · rename_i hte
              simp only [Bool.and_eq_true] at hte
              obtain ⟨hte, hemt⟩ := hte
              have hte' := beq_eq hte
              subst hte'
              have hem : U.em = some t := by
                unfold isEm at hemt
                split at hemt
                · rename_i e he
                  rw [he, beq_eq hemt]
                · cases hemt
              simp only [RQ.run] at h
              split at h
              · rename_i hmk
                obtain ⟨ys, hys, h⟩ := rowQ_run hU R vy h
                simp only [RQ.run, Option.some.injEq] at h
                subst h
                intro hc _ _
                have hle : (xs.length + ys.length) * byOf P t ≤ 140737488355328 := by simpa [Step.if_] using hc
                obtain ⟨_, hbs, _⟩ := R.mr.mrk _ hmk
                cases hB : M.bp with
                | none => rw [hB] at hbs; cases hbs
                | some B =>
                  obtain ⟨v', w', cl', row, hr, ho', hcr', hg, hat, hrow⟩ := append_em (P := P) (ty := o.type) hU R hu hi hsz hz hzl h0 hb0 hB hem vx hys hle
                  exact .val (run x y _ v' w' rfl hxy hr) (Post.em hU R hmk hB ho' hcr' hg hat hrow)
              · simp [RQ.run] at h
            · simp [RQ.run] at h
          · simp [RQ.run] at h
        · simp [RQ.run] at h
      · simp [RQ.run] at h
    · simp [RQ.run] at h
  · simp [RQ.run] at h
end
end Go.Sx
