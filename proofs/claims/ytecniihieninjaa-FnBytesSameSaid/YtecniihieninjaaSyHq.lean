/- An evaluator of the model's code over symbolic values, and its soundness: part 16. No condition. -/
import Derived.Test.YtecniihieninjaaSyHp
set_option linter.unusedVariables false
set_option linter.unusedSimpArgs false
namespace Go.Sx
open Go.RowKit
variable {T : Nat → Type} {U : Univ T} {P : Program}

section
variable {w0 : Frm} {M0 : Mem} {nt nid : Nat} {s : St T} {a : Act} {w : World} {ρ ρ' : Nat → Option Value} {M : Mem} {c : Step T} {o : Oper} {Tb : Calls_ T} {α : Type 1} {r : α}

theorem CR.nr_ (hU : UOk U) {t : Nat} {xs : List (T t)} {cl : List Value} (h : CR U ρ M (xs.flatMap (U.enc t)) cl) : CR U ρ' M (xs.flatMap (U.enc t)) cl :=
  ⟨h.len, h.one, fun i h1 h2 => (h.at_ i h1 h2).nr1 hU (by
    obtain ⟨y, _, hy⟩ := List.mem_flatMap.1 (List.getElem_mem h1)
    exact List.all_eq_true.1 (hU.nr t y) _ hy)⟩

theorem blk_puts2 (s : St T) (b b' : Nat) (k k' : Blk T) (x : Nat) : (s.puts [(b, k), (b', k')]).blk x = if b = x then k else if b' = x then k' else s.blk x := by
  rw [puts_cons, blk_put1, blk_put1]

/-- A handle's row is taken out of the heap: it gets a name. -/
theorem gh_imp (hmr : MR U w0 (M0.wh M) s.blk ρ M w) (hx : HX U w0 M0 s.blk ρ M w) (hm : U.hm = true) {cs : List (Cell T)} (hcs : s.blk PLB = .mark cs) {j t : Nat} {xs : List (T t)} (hj : cs[j]? = some (.arr t xs)) {ib : Nat} (hib : ρ ib = none) (h1 : ib ≠ PLB) (h2 : ib ≠ MKB) :
    ∃ v, M.hp j = some v ∧ MR U w0 (M0.wh M) (s.puts [(ib, .arr t xs), (PLB, .mark (cs.set j .dead))]).blk (updR ρ ib v) M w ∧ HX U w0 M0 (s.puts [(ib, .arr t xs), (PLB, .mark (cs.set j .dead))]).blk (updR ρ ib v) M w := by
  obtain ⟨cs', e, PR⟩ := hx.on hm
  rw [hcs] at e
  cases e
  rcases PR.cell j _ hj with d | ⟨v, hv, hB⟩
  · cases d
  refine ⟨v, hv, ?_⟩
  have hB' : BR U w0.own (updR ρ ib v) M w v (.arr t xs) := hB.mono (fun b x h => by cases h) (.refl _) fun _ g _ => ⟨rfl, .refl _ _⟩
  have hle : LeR ρ (updR ρ ib v) := LeR.upd hib
  have hbk : ∀ x, (s.puts [(ib, .arr t xs), (PLB, .mark (cs.set j .dead))]).blk x = if ib = x then .arr t xs else if PLB = x then .mark (cs.set j .dead) else s.blk x := fun x => blk_puts2 ..
  have key : ∀ b v', ((s.puts [(ib, .arr t xs), (PLB, .mark (cs.set j .dead))]).blk b).live = true → updR ρ ib v b = some v' → (b = ib ∧ v' = v) ∨ (b ≠ ib ∧ b ≠ PLB ∧ (s.blk b).live = true ∧ ρ b = some v') := by
    intro b v' hl hv'
    rw [hbk] at hl
    by_cases e : ib = b
    · subst e
      simp [updR] at hv'
      exact .inl ⟨rfl, hv'.symm⟩
    · rw [if_neg e] at hl
      have e' : b ≠ ib := Ne.symm e
      by_cases e2 : PLB = b
      · rw [if_pos e2] at hl; cases hl
      · rw [if_neg e2] at hl
        simp [updR, e'] at hv'
        exact .inr ⟨e', Ne.symm e2, hl, hv'⟩
  constructor
  · refine ⟨hmr.fr, fun i v hi => hle _ _ (hmr.pin i v hi), hmr.m0, hmr.mo, hmr.sub, fun b => ?_, fun b b' v1 v2 g l1 l2 e1 e2 g1 g2 => ?_, hmr.bpw, hmr.bpo, hmr.kp, fun ds hd => ?_, hmr.e0, hmr.hpo⟩
    · rw [hbk]
      by_cases e : ib = b
      · subst e; rw [if_pos rfl]; exact .inr (.inr ⟨v, by simp [updR], hB'⟩)
      · rw [if_neg e]
        by_cases e2 : PLB = b
        · rw [if_pos e2]; exact .inr (.inl ⟨_, rfl⟩)
        · rw [if_neg e2]
          rcases hmr.blk b with d | d | ⟨v1, hv1, hB1⟩
          · exact .inl d
          · exact .inr (.inl d)
          · exact .inr (.inr ⟨v1, hle _ _ hv1, hB1.mono hle (.refl _) fun _ g _ => ⟨rfl, .refl _ _⟩⟩)
    · rcases key b v1 l1 e1 with ⟨rfl, rfl⟩ | ⟨_, _, k1, k2⟩ <;> rcases key b' v2 l2 e2 with ⟨rfl, rfl⟩ | ⟨_, _, k3, k4⟩
      · rfl
      · exact (PR.apart j _ b' _ v2 g hj rfl k3 hv k4 g1 g2).elim
      · exact (PR.apart j _ b _ v1 g hj rfl k1 hv k2 g2 g1).elim
      · exact hmr.inj b b' v1 v2 g k1 k3 k2 k4 g1 g2
    · rw [hbk, if_neg h2, if_neg (by decide)] at hd
      exact hmr.mrk ds hd
  · refine ⟨hx.le, fun h => (by rw [hm] at h; cases h), fun _ => ⟨cs.set j .dead, by rw [hbk, if_neg h1, if_pos rfl], ?_⟩⟩
    have old : ∀ {i : Nat} {ci : Cell T}, (cs.set j .dead)[i]? = some ci → ci = .dead ∨ (i ≠ j ∧ cs[i]? = some ci) := by
      intro i ci hi
      by_cases e : j = i
      · subst e
        rw [List.getElem?_set_self (List.getElem?_eq_some_iff.1 hj).1] at hi
        cases hi; exact .inl rfl
      · rw [List.getElem?_set_ne e] at hi
        exact .inr ⟨Ne.symm e, hi⟩
    refine ⟨fun i ci hi => ?_, fun i hi => PR.fresh i (by simpa using hi), fun i i' ci cj vi vj g k1 k2 k3 k4 k5 k6 => ?_, fun i ci b vj vb g k1 k2 k3 k4 k5 k6 k7 => ?_, PR.bp, ?_, fun i ci v1 g k1 k2 k3 k4 => ?_⟩
    · rcases old hi with d | ⟨_, hi⟩
      · exact .inl d
      · exact PR.cell i ci hi
    · rcases old k1 with rfl | ⟨_, k1⟩
      · cases k3
      rcases old k2 with rfl | ⟨_, k2⟩
      · cases k4
      exact PR.inj i i' ci cj vi vj g k1 k2 k3 k4 k5 k6
    · rcases old k1 with rfl | ⟨n1, k1⟩
      · cases k2
      rcases key b vb k3 k5 with ⟨rfl, rfl⟩ | ⟨_, _, l1, l2⟩
      · exact n1 (PR.inj i j ci _ vj _ g k1 hj k2 rfl k4 hv k6 k7)
      · exact PR.apart i ci b vj vb g k1 k2 l1 k4 l2 k6 k7
    · rw [hbk, if_neg h2, if_neg (by decide)]; exact PR.nmk
    · rcases old k1 with rfl | ⟨_, k1⟩
      · cases k2
      exact PR.old i ci v1 g k1 k2 k3 k4

/-- A name's row is put (back) into a cell of the heap. -/
theorem gh_exp (hU : UOk U) (hmr : MR U w0 (M0.wh M) s.blk ρ M w) (hx : HX U w0 M0 s.blk ρ M w) (hm : U.hm = true) {cs : List (Cell T)} (hcs : s.blk PLB = .mark cs) {j t : Nat} {xs : List (T t)} (hj : cs[j]? = some .dead) {ib : Nat} {v : Value} (hib : ρ ib = some v) (hv : M.hp j = some v) (hb : s.blk ib = .arr t xs) (h2 : ib ≠ MKB) :
    MR U w0 (M0.wh M) (s.puts [(ib, .dead), (PLB, .mark (cs.set j (.arr t xs)))]).blk ρ M w ∧ HX U w0 M0 (s.puts [(ib, .dead), (PLB, .mark (cs.set j (.arr t xs)))]).blk ρ M w := by
  obtain ⟨cs', e, PR⟩ := hx.on hm
  rw [hcs] at e
  cases e
  have h1 : ib ≠ PLB := fun h => by rw [h, hcs] at hb; cases hb
  have hbk : ∀ x, (s.puts [(ib, .dead), (PLB, .mark (cs.set j (.arr t xs)))]).blk x = if ib = x then .dead else if PLB = x then .mark (cs.set j (.arr t xs)) else s.blk x := fun x => blk_puts2 ..
  have live : ∀ b, ((s.puts [(ib, .dead), (PLB, .mark (cs.set j (.arr t xs)))]).blk b).live = true → b ≠ ib ∧ (s.blk b).live = true := by
    intro b hl
    rw [hbk] at hl
    by_cases e : ib = b
    · rw [if_pos e] at hl; cases hl
    · rw [if_neg e] at hl
      by_cases e2 : PLB = b
      · rw [if_pos e2] at hl; cases hl
      · rw [if_neg e2] at hl; exact ⟨Ne.symm e, hl⟩
  have hBi : BR U w0.own noR0 M w v (.arr t xs) := by
    rcases hmr.blk ib with d | ⟨_, d⟩ | ⟨v1, hv1, hB1⟩
    · rw [hb] at d; cases d
    · rw [hb] at d; cases d
    · rw [hib] at hv1
      cases hv1
      rw [hb] at hB1
      obtain ⟨cl, k1, k2, k3⟩ := hB1
      exact ⟨cl, k1, k2.nr_ hU, k3⟩
  have hlb : (s.blk ib).live = true := by rw [hb]; rfl
  constructor
  · refine hmr.env fun b => ?_
    rw [hbk]
    by_cases e : ib = b
    · subst e; rw [if_pos rfl]; exact .inr ⟨h2, .inl rfl⟩
    · rw [if_neg e]
      by_cases e2 : PLB = b
      · subst e2; rw [if_pos rfl]; exact .inr ⟨by decide, .inr ⟨_, rfl⟩⟩
      · rw [if_neg e2]; exact .inl rfl
  · refine ⟨hx.le, fun h => (by rw [hm] at h; cases h), fun _ => ⟨cs.set j (.arr t xs), by rw [hbk, if_neg h1, if_pos rfl], ?_⟩⟩
    have old : ∀ {i : Nat} {ci : Cell T}, (cs.set j (.arr t xs))[i]? = some ci → (i = j ∧ ci = .arr t xs) ∨ (i ≠ j ∧ cs[i]? = some ci) := by
      intro i ci hi
      by_cases e : j = i
      · subst e
        rw [List.getElem?_set_self (List.getElem?_eq_some_iff.1 hj).1] at hi
        cases hi; exact .inl ⟨rfl, rfl⟩
      · rw [List.getElem?_set_ne e] at hi
        exact .inr ⟨Ne.symm e, hi⟩
    refine ⟨fun i ci hi => ?_, fun i hi => PR.fresh i (by simpa using hi), fun i i' ci cj vi vj g k1 k2 k3 k4 k5 k6 k7 k8 => ?_, fun i ci b vj vb g k1 k2 k3 k4 k5 k6 k7 => ?_, PR.bp, ?_, fun i ci v1 g k1 k2 k3 k4 => ?_⟩
    · rcases old hi with ⟨rfl, rfl⟩ | ⟨_, hi⟩
      · exact .inr ⟨v, hv, hBi⟩
      · exact PR.cell i ci hi
    · rcases old k1 with ⟨rfl, rfl⟩ | ⟨n1, m1⟩ <;> rcases old k2 with ⟨rfl, rfl⟩ | ⟨n2, m2⟩
      · rfl
      · rw [hv] at k5; cases k5
        exact (PR.apart i' cj ib vj _ g m2 k4 hlb k6 hib k8 k7).elim
      · rw [hv] at k6; cases k6
        exact (PR.apart i ci ib vi _ g m1 k3 hlb k5 hib k7 k8).elim
      · exact PR.inj i i' ci cj vi vj g m1 m2 k3 k4 k5 k6 k7 k8
    · obtain ⟨n3, m3⟩ := live b k3
      rcases old k1 with ⟨rfl, rfl⟩ | ⟨_, k1⟩
      · rw [hv] at k4; cases k4
        exact n3 (hmr.inj b ib vb _ g m3 hlb k5 hib k7 k6)
      · exact PR.apart i ci b vj vb g (by assumption) k2 m3 k4 k5 k6 k7
    · rw [hbk, if_neg h2, if_neg (by decide)]; exact PR.nmk
    · rcases old k1 with ⟨rfl, rfl⟩ | ⟨_, k1⟩
      · rw [hv] at k3; cases k3
        exact hmr.lt hlb hib k4
      · exact PR.old i ci v1 g k1 k2 k3 k4

/-- A handle more. -/
def Mem.more (M : Mem) (n : Nat) (v : Value) : Mem := ⟨M.pin, M.bp, fun i => if i = n then some v else M.hp i⟩
theorem LeM.more {n : Nat} {v : Value} (h : M.hp n = none) : LeM M (M.more n v) := ⟨fun _ _ _ h => h, fun B hB => ⟨B, hB, fun _ _ h => h⟩, fun j u hj => by
  show (if j = n then some v else M.hp j) = some u
  split
  · rename_i e; subst e; rw [h] at hj; cases hj
  · exact hj⟩
theorem MR.more {e : Nat → Blk T} (h : MR U w0 (M0.wh M) e ρ M w) {n : Nat} {v : Value} (hn : M.hp n = none) : MR U w0 (M0.wh (M.more n v)) e ρ (M.more n v) w where
  fr := h.fr
  pin := h.pin
  m0 := ⟨h.m0.pin, h.m0.bp, fun _ _ h => h⟩
  mo := h.mo
  sub := h.sub
  blk := fun b => by
    rcases h.blk b with d | d | ⟨v1, hv1, hB⟩
    · exact .inl d
    · exact .inr (.inl d)
    · exact .inr (.inr ⟨v1, hv1, hB.mono (.refl _) (.more hn) fun _ g _ => ⟨rfl, fun _ => rfl, fun B hB => ⟨B, hB, rfl⟩⟩⟩)
  inj := h.inj
  bpw := h.bpw
  bpo := h.bpo
  kp := h.kp
  mrk := h.mrk
  e0 := h.e0
  hpo := rfl

/-- The heap of handles set anew. -/
def plE (e : Nat → Blk T) (cs : List (Cell T)) : Nat → Blk T := fun x => if PLB = x then .mark cs else e x
/-- A row that is held by no cell gets a cell: one of one's own (k = .dead afterwards), or one that stands still. -/
theorem gh_more {e : Nat → Blk T} (hmr : MR U w0 (M0.wh M) e ρ M w) (hx : HX U w0 M0 e ρ M w) (hm : U.hm = true) {cs : List (Cell T)} (hcs : e PLB = .mark cs) {v : Value} {c : Cell T}
    (hB : BR U w0.own noR0 M w v c.blk)
    (hap : c.live = true → ∀ g, blockOf v = some g → (g < w.heap.size ∧ w0.own g) ∧ (∀ b vb, (e b).live = true → ρ b = some vb → blockOf vb = some g → False) ∧ ∀ j cj vj, cs[j]? = some cj → cj.live = true → M.hp j = some vj → blockOf vj = some g → False) :
    LeM M (M.more cs.length v) ∧ MR U w0 (M0.wh (M.more cs.length v)) (plE e (cs ++ [c])) ρ (M.more cs.length v) w ∧ HX U w0 M0 (plE e (cs ++ [c])) ρ (M.more cs.length v) w := by
  obtain ⟨cs', e0, PR⟩ := hx.on hm
  rw [hcs] at e0
  cases e0
  have hn := PR.fresh cs.length (Nat.le_refl _)
  have hle : LeM M (M.more cs.length v) := .more hn
  have hbk : ∀ x, (plE e (cs ++ [c])) x = if PLB = x then .mark (cs ++ [c]) else e x := fun x => rfl
  have live : ∀ b, ((plE e (cs ++ [c])) b).live = true → (e b).live = true := by
    intro b hl
    rw [hbk] at hl
    by_cases e2 : PLB = b
    · rw [if_pos e2] at hl; cases hl
    · rw [if_neg e2] at hl; exact hl
  have hp : ∀ i, (M.more cs.length v).hp i = if i = cs.length then some v else M.hp i := fun _ => rfl
  refine ⟨hle, (hmr.more hn).env fun b => ?_, ⟨fun j u hj => hle.hp _ _ (hx.le j u hj), fun h => (by rw [hm] at h; cases h), fun _ => ⟨cs ++ [c], by rw [hbk, if_pos rfl], ?_⟩⟩⟩
  · rw [hbk]
    by_cases e2 : PLB = b
    · subst e2; rw [if_pos rfl]; exact .inr ⟨by decide, .inr ⟨_, rfl⟩⟩
    · rw [if_neg e2]; exact .inl rfl
  · have old : ∀ {i : Nat} {ci : Cell T}, (cs ++ [c])[i]? = some ci → (i = cs.length ∧ ci = c) ∨ (i ≠ cs.length ∧ cs[i]? = some ci) := by
      intro i ci hi
      rcases Nat.lt_trichotomy i cs.length with h | h | h
      · rw [List.getElem?_append_left h] at hi
        exact .inr ⟨by omega, hi⟩
      · subst h
        simp at hi
        exact .inl ⟨rfl, hi.symm⟩
      · rw [List.getElem?_eq_none (by simp; omega)] at hi
        cases hi
    have same : ∀ g : Nat, w.heap[g]? = w.heap[g]? ∧ SameAt M (M.more cs.length v) g := fun g => ⟨rfl, fun _ => rfl, fun B hB => ⟨B, hB, rfl⟩⟩
    refine ⟨fun i ci hi => ?_, fun i hi => ?_, fun i i' ci cj vi vj g k1 k2 k3 k4 k5 k6 k7 k8 => ?_, fun i ci b vj vb g k1 k2 k3 k4 k5 k6 k7 => ?_, PR.bp, ?_, fun i ci v1 g k1 k2 k3 k4 => ?_⟩
    · rcases old hi with ⟨rfl, rfl⟩ | ⟨n1, hi⟩
      · exact .inr ⟨v, by rw [hp, if_pos rfl], hB.mono (.refl _) hle fun _ g _ => same g⟩
      · rcases PR.cell i ci hi with d | ⟨u, h1, h2⟩
        · exact .inl d
        · exact .inr ⟨u, by rw [hp, if_neg n1]; exact h1, h2.mono (.refl _) hle fun _ g _ => same g⟩
    · have : cs.length < i := by simp at hi; omega
      rw [hp, if_neg (by omega)]
      exact PR.fresh i (by omega)
    · rw [hp] at k5 k6
      rcases old k1 with ⟨e1, rfl⟩ | ⟨n1, m1⟩ <;> rcases old k2 with ⟨e2, rfl⟩ | ⟨n2, m2⟩
      · rw [e1, e2]
      · rw [if_pos e1] at k5; rw [if_neg n2] at k6; cases k5
        exact ((hap k3 g k7).2.2 i' cj vj m2 k4 k6 k8).elim
      · rw [if_neg n1] at k5; rw [if_pos e2] at k6; cases k6
        exact ((hap k4 g k8).2.2 i ci vi m1 k3 k5 k7).elim
      · rw [if_neg n1] at k5; rw [if_neg n2] at k6
        exact PR.inj i i' ci cj vi vj g m1 m2 k3 k4 k5 k6 k7 k8
    · rw [hp] at k4
      rcases old k1 with ⟨e1, rfl⟩ | ⟨n1, m1⟩
      · rw [if_pos e1] at k4; cases k4
        exact (hap k2 g k6).2.1 b vb (live b k3) k5 k7
      · rw [if_neg n1] at k4
        exact PR.apart i ci b vj vb g m1 k2 (live b k3) k4 k5 k6 k7
    · rw [hbk, if_neg (by decide)]; exact PR.nmk
    · rw [hp] at k3
      rcases old k1 with ⟨e1, rfl⟩ | ⟨n1, m1⟩
      · rw [if_pos e1] at k3; cases k3
        exact (hap k2 g k4).1
      · rw [if_neg n1] at k3
        exact PR.old i ci v1 g m1 k2 k3 k4

theorem RQ.bind_run {α β : Type 1} {s : St T} {f : α → RQ T β} {y : β} : ∀ {q : RQ T α}, (q.bind f).run s = some y → ∃ x, q.run s = some x ∧ (f x).run s = some y
  | .pure a, h => ⟨a, rfl, h⟩
  | .fail, h => by cases h
  | .getT t k, h => RQ.bind_run (q := k (s.get t)) h
  | .getB b k, h => RQ.bind_run (q := k (s.blk b)) h

theorem HX.drew {env : Nat → Blk T} (h : HX U w0 M0 env ρ M w) (n : Nat) : HX U w0 M0 env ρ M { w with drawn := n } :=
  ⟨h.le, h.off, fun hm => by
    obtain ⟨cs, e, PR⟩ := h.on hm
    exact ⟨cs, e, ⟨fun j c hj => (PR.cell j c hj).imp id fun ⟨v, h1, h2⟩ => ⟨v, h1, h2.mono (.refl _) (.refl _) fun _ g _ => ⟨rfl, .refl _ _⟩⟩, PR.fresh, PR.inj, PR.apart, PR.bp, PR.nmk, PR.old⟩⟩⟩
/-- Names changed, the heap of handles kept. -/
theorem HX.env {env env' : Nat → Blk T} (h : HX U w0 M0 env ρ M w) (hk : ∀ cs, env PLB = .mark cs → isMark (env MKB) = false → env' PLB = .mark cs ∧ isMark (env' MKB) = false) (hl : ∀ b v g, (env' b).live = true → ρ' b = some v → blockOf v = some g → ∃ b' v', (env b').live = true ∧ ρ b' = some v' ∧ blockOf v' = some g) : HX U w0 M0 env' ρ' M w :=
  ⟨h.le, h.off, fun hm => by
    obtain ⟨cs, e, PR⟩ := h.on hm
    obtain ⟨e1, e2⟩ := hk cs e PR.nmk
    exact ⟨cs, e1, ⟨PR.cell, PR.fresh, PR.inj, fun j c b vj vb g h1 h2 h3 h4 h5 h6 h7 => by
      obtain ⟨b', v', k1, k2, k3⟩ := hl b vb g h3 h5 h7
      exact PR.apart j c b' vj v' g h1 h2 k1 h4 k2 h6 k3, PR.bp, e2, PR.old⟩⟩⟩
theorem HX.nil {env : Nat → Blk T} (hm : U.hm = false) : HX U w0 M0 env ρ M0 w := ⟨fun _ _ h => h, fun _ => rfl, fun h => by rw [hm] at h; cases h⟩

theorem get_put1 (s : St T) (p : Nat) (x : SV T) (t : Nat) : (s.put1 p x).get t = if p = t then x else s.get t := by
  unfold St.put1 St.get
  simp only [look]
  by_cases h : p = t
  · subst h; simp
  · have : Nat.beq p t = false := by
      cases hb : Nat.beq p t
      · rfl
      · exact absurd (Nat.eq_of_beq_eq_true hb) h
    rw [this, if_neg h]
theorem RQ.wT_run {α : Type 1} {s : St T} {p : Nat} {x : SV T} : ∀ q : RQ T α, (q.wT p x).run s = q.run (s.put1 p x)
  | .pure a => rfl
  | .fail => rfl
  | .getT t k => by
    simp only [RQ.wT, RQ.run, get_put1]
    by_cases h : p = t
    · subst h
      simp only [Nat.beq_refl, if_true]
      exact RQ.wT_run (k x)
    · have : Nat.beq p t = false := by
        cases hb : Nat.beq p t
        · rfl
        · exact absurd (Nat.eq_of_beq_eq_true hb) h
      simp only [this, if_neg h, RQ.run]
      exact RQ.wT_run (k (s.get t))
  | .getB b k => RQ.wT_run (k (s.blk b))
theorem RQ.wB_run {α : Type 1} {s : St T} {b : Nat} {x : Blk T} : ∀ q : RQ T α, (q.wB b x).run s = q.run (s.puts [(b, x)])
  | .pure a => rfl
  | .fail => rfl
  | .getT t k => RQ.wB_run (k (s.get t))
  | .getB c k => by
    simp only [RQ.wB, RQ.run, blk_put1]
    by_cases h : b = c
    · subst h
      simp only [Nat.beq_refl, if_true]
      exact RQ.wB_run (k x)
    · have : Nat.beq b c = false := by
        cases hb : Nat.beq b c
        · rfl
        · exact absurd (Nat.eq_of_beq_eq_true hb) h
      simp only [this, if_neg h, RQ.run]
      exact RQ.wB_run (k (s.blk c))
theorem okA_cell {t j : Nat} {cs : List (Cell T)} (hk : okA t cs (j + 1) = true) : cs[j]? = some (.arr t (rdc t cs (j + 1))) := by
  simp only [okA] at hk
  simp only [rdc]
  cases hc : cs[j]? with
  | none => rw [hc] at hk; cases hk
  | some c =>
    rw [hc] at hk
    cases c with
    | dead => cases hk
    | frz t' xs => cases hk
    | arr t' xs =>
      have := Nat.eq_of_beq_eq_true hk
      subst this
      simp

/-- The nil handle gets a name: an empty row. -/
theorem gh_nil (hmr : MR U w0 (M0.wh M) s.blk ρ M w) (hx : HX U w0 M0 s.blk ρ M w) {cs : List (Cell T)} (hcs : s.blk PLB = .mark cs) (t : Nat) {ib : Nat} (hib : ρ ib = none) (h1 : ib ≠ PLB) (h2 : ib ≠ MKB) :
    MR U w0 (M0.wh M) (s.puts [(ib, .arr t []), (PLB, .mark cs)]).blk (updR ρ ib (.slice none 0 0)) M w ∧ HX U w0 M0 (s.puts [(ib, .arr t []), (PLB, .mark cs)]).blk (updR ρ ib (.slice none 0 0)) M w := by
  have hle : LeR ρ (updR ρ ib (.slice none 0 0)) := LeR.upd hib
  have hblk : ∀ x, (s.puts [(ib, .arr t []), (PLB, .mark cs)]).blk x = if ib = x then .arr t [] else s.blk x := fun x => by
    rw [blk_puts2]
    by_cases e : ib = x
    · rw [if_pos e, if_pos e]
    · rw [if_neg e, if_neg e]
      by_cases e2 : PLB = x
      · subst e2; rw [if_pos rfl, hcs]
      · rw [if_neg e2]
  have old : ∀ b v g, ((s.puts [(ib, .arr t []), (PLB, .mark cs)]).blk b).live = true → updR ρ ib (.slice none 0 0) b = some v → blockOf v = some g → (s.blk b).live = true ∧ ρ b = some v := by
    intro b v g h1 e1 g1
    by_cases hb : b = ib
    · subst hb
      simp [updR] at e1
      subst e1
      cases g1
    · rw [hblk, if_neg (Ne.symm hb)] at h1
      unfold updR at e1
      rw [if_neg hb] at e1
      exact ⟨h1, e1⟩
  refine ⟨?_, hx.env (fun ds k1 k2 => ⟨by rw [hblk, if_neg h1]; exact k1, by rw [hblk, if_neg h2]; exact k2⟩) fun b v g k1 k2 k3 => ⟨b, v, (old b v g k1 k2 k3).1, (old b v g k1 k2 k3).2, k3⟩⟩
  refine hmr.step (fun b => b = ib) hmr.fr hle (.refl _) (hmr.same fun _ _ _ _ _ => rfl) (fun _ _ _ => rfl) hmr.sub (fun b hb => ⟨by rw [hblk, if_neg (Ne.symm hb)], fun _ _ _ _ _ => ⟨rfl, .refl _ _⟩⟩) (fun b hb => ?_) ?_
  · subst hb
    refine .inr ⟨.slice none 0 0, by simp [updR], ?_⟩
    rw [hblk, if_pos rfl]
    exact ⟨[], ⟨by simp, .inl ⟨rfl, rfl⟩⟩, .nil, (fun g hg => by cases hg), (fun g hg => by cases hg)⟩
  · intro b b' v v' g h1 h2 e1 e2 g1 g2
    obtain ⟨a1, a2⟩ := old b v g h1 e1 g1
    obtain ⟨b1, b2⟩ := old b' v' g h2 e2 g2
    exact hmr.inj b b' v v' g a1 b1 a2 b2 g1 g2
end
end Go.Sx
