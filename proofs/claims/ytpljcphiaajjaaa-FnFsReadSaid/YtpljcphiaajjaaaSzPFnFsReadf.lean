/- The plain law FnFsRead, over what its functions compute: a part. No further condition. -/
import Derived.Test.YtpljcphiaajjaaaSzPFnFsReade
set_option linter.unusedVariables false
set_option linter.unusedSimpArgs false
namespace Go.Sx
open Go.RowKit Go.Lib
set_option linter.unusedVariables false
set_option linter.unusedSimpArgs false

/-! ### an answer, and what is known of it -/
def Okk {α : Type} (o : Option α) (Q : α → Prop) : Prop := ∃ r, o = some r ∧ Q r
theorem Okk.ret {α : Type} {r : α} {Q : α → Prop} (h : Q r) : Okk (some r) Q := ⟨r, rfl, h⟩
theorem Okk.cnd {α : Type} {b : Bool} {x y : Option α} {Q : α → Prop} (h1 : b = true → Okk x Q) (h2 : b = false → Okk y Q) : Okk (cond b x y) Q := by
  cases b
  · exact h2 rfl
  · exact h1 rfl
theorem Okk.chk {α : Type} {p : Prop} [Decidable p] {x : Option α} {Q : α → Prop} (h : p) (h1 : Okk x Q) : Okk (cond (decide p) x none) Q := by
  rw [decide_eq_true h]; exact h1
theorem Okk.bnd {α β : Type} {o : Option α} {g : α → Option β} {P : α → Prop} {Q : β → Prop} (h : Okk o P) (h2 : ∀ r, P r → Okk (g r) Q) : Okk (o.bind g) Q := by
  obtain ⟨r, e, hr⟩ := h
  rw [e]; exact h2 r hr
theorem Okk.mono {α : Type} {o : Option α} {P Q : α → Prop} (h : Okk o P) (h2 : ∀ r, P r → Q r) : Okk o Q := by
  obtain ⟨r, e, hr⟩ := h
  exact ⟨r, e, h2 r hr⟩
theorem Okk.all {α : Type} {o : Option α} {P : α → Prop} (h : Okk o P) : Okk o (fun _ => True) := h.mono fun _ _ => trivial

/-! ### nodes of a drawn file system -/
structure Nd (n : S34) : Prop where
  l : n.f8.length ≤ 6
  t : n.f7.size ≤ 40
  e : ∀ e ∈ n.f8, 0 ≤ e.f1 ∧ e.f1 ≤ 9 ∧ e.f0.size ≤ 4
theorem mem47 {l : List S47} {i : Int} (h0 : 0 ≤ i) (h1 : i < ((l.length : Nat) : Int)) : rd47 l i ∈ l := by
  obtain ⟨j, rfl⟩ : ∃ j : Nat, i = j := ⟨i.toNat, by omega⟩
  have hj : j < l.length := by omega
  rw [rd47_at hj]; exact List.getElem_mem hj
theorem rd34_mem {l : List S34} {i : Int} (h0 : 0 ≤ i) (h1 : i < ((l.length : Nat) : Int)) : rd34 l i ∈ l := by
  obtain ⟨j, rfl⟩ : ∃ j : Nat, i = j := ⟨i.toNat, by omega⟩
  have hj : j < l.length := by omega
  rw [rd34_at hj]; exact List.getElem_mem hj
theorem rd34_set {ns : List S34} {i j : Int} {x : S34} (h0 : 0 ≤ i) (h1 : i < ((ns.length : Nat) : Int)) (g0 : 0 ≤ j) : rd34 (ns.set i.toNat x) j = if j = i then x else rd34 ns j := by
  obtain ⟨a, rfl⟩ : ∃ a : Nat, i = a := ⟨i.toNat, by omega⟩
  obtain ⟨b, rfl⟩ : ∃ b : Nat, j = b := ⟨j.toNat, by omega⟩
  have ha : a < ns.length := by omega
  unfold rd34
  by_cases c : b = a
  · subst c; simp [ha]
  · have c2 : ¬ ((b : Int) = (a : Int)) := by omega
    have c3 : ¬ a = b := fun h => c h.symm
    simp [c2, c3, List.getElem?_set]
def RK (ns : List S34) (ρ : Int → Nat) : Prop := ∀ i : Int, 0 ≤ i → i < 10 → ∀ e ∈ (rd34 ns i).f8, (rd34 ns e.f1).f0 = 2 → ρ e.f1 < ρ i
structure Inv (R : Nat) (ns : List S34) : Prop where
  len : ns.length = 10
  nd : ∀ n ∈ ns, Nd n
  rk : ∃ ρ : Int → Nat, (∀ i, ρ i ≤ R) ∧ RK ns ρ
theorem Inv.at_ {R : Nat} {ns : List S34} (I : Inv R ns) {i : Int} (h0 : 0 ≤ i) (h1 : i < 10) : Nd (rd34 ns i) := I.nd _ (rd34_mem h0 (by rw [I.len]; exact h1))
theorem Inv.mono {R S : Nat} {ns : List S34} (I : Inv R ns) (h : R ≤ S) : Inv S ns := by
  obtain ⟨ρ, h1, h2⟩ := I.rk
  exact ⟨I.len, I.nd, ρ, fun i => Nat.le_trans (h1 i) h, h2⟩
theorem set_nd {ns : List S34} (h : ∀ n ∈ ns, Nd n) (i : Nat) {x : S34} (hx : Nd x) : ∀ n ∈ ns.set i x, Nd n := fun n hn => by
  rcases List.mem_or_eq_of_mem_set hn with h1 | h1
  · exact h n h1
  · exact h1 ▸ hx
/-- A rank goes on when a node is set. -/
theorem RK.set {ns : List S34} {ρ : Int → Nat} (h : RK ns ρ) (hl : ns.length = 10) (hn : ∀ n ∈ ns, Nd n) {i : Int} (h0 : 0 ≤ i) (h1 : i < 10) {x : S34} (hx : Nd x) (hk : x.f0 = 2 → (rd34 ns i).f0 = 2)
    (he : ∀ e ∈ x.f8, e ∈ (rd34 ns i).f8 ∨ ((rd34 ns e.f1).f0 = 2 → ρ e.f1 < ρ i)) : RK (ns.set i.toNat x) ρ := by
  have hl' : i < ((ns.length : Nat) : Int) := by omega
  have hkk : ∀ a : Int, 0 ≤ a → (rd34 (ns.set i.toNat x) a).f0 = 2 → (rd34 ns a).f0 = 2 := by
    intro a ha h2
    rw [rd34_set h0 hl' ha] at h2
    by_cases c : a = i
    · rw [if_pos c] at h2; rw [c]; exact hk h2
    · rw [if_neg c] at h2; exact h2
  intro j j0 j1 e hm h2
  rw [rd34_set h0 hl' j0] at hm
  by_cases c : j = i
  · rw [if_pos c] at hm
    have h3 := hkk e.f1 (hx.e e hm).1 h2
    subst c
    rcases he e hm with h4 | h4
    · exact h j j0 j1 e h4 h3
    · exact h4 h3
  · rw [if_neg c] at hm
    have hj : Nd (rd34 ns j) := hn _ (rd34_mem j0 (by omega))
    exact h j j0 j1 e hm (hkk e.f1 (hj.e e hm).1 h2)
theorem Inv.upd {R : Nat} {ns : List S34} (I : Inv R ns) {i : Int} (h0 : 0 ≤ i) (h1 : i < 10) {x : S34} (hx : Nd x) (hk : x.f0 = 2 → (rd34 ns i).f0 = 2) (he : ∀ e ∈ x.f8, e ∈ (rd34 ns i).f8) : Inv R (ns.set i.toNat x) := by
  obtain ⟨ρ, hb, hr⟩ := I.rk
  exact ⟨by rw [List.length_set]; exact I.len, set_nd I.nd _ hx, ρ, hb, hr.set I.len I.nd h0 h1 hx hk fun e h => .inl (he e h)⟩

/-! ### what is below a folder -/
inductive Rch (ns : List S34) : Int → Int → Prop
  | refl (a : Int) : Rch ns a a
  | step (a : Int) (e : S47) (c : Int) : e ∈ (rd34 ns a).f8 → (rd34 ns e.f1).f0 = 2 → Rch ns e.f1 c → Rch ns a c
theorem Rch.snoc {ns : List S34} {a b : Int} (h : Rch ns a b) (e : S47) (he : e ∈ (rd34 ns b).f8) (h2 : (rd34 ns e.f1).f0 = 2) : Rch ns a e.f1 := by
  induction h with
  | refl a => exact .step a e _ he h2 (.refl _)
  | step a x c hx hk hr ih => exact .step a x _ hx hk (ih he)
open Classical in
noncomputable def rho2 (ns : List S34) (ρ : Int → Nat) (a : Int) : Int → Nat := fun x => if Rch ns a x then ρ x else ρ x + (ρ a + 1)
theorem RK.rho2 {ns : List S34} {ρ : Int → Nat} (h : RK ns ρ) (a : Int) : RK ns (rho2 ns ρ a) := by
  intro i i0 i1 e he h2
  have h3 := h i i0 i1 e he h2
  unfold Go.Sx.rho2
  by_cases c : Rch ns a i
  · rw [if_pos c, if_pos (c.snoc e he h2)]; exact h3
  · rw [if_neg c]
    by_cases d : Rch ns a e.f1
    · rw [if_pos d]; omega
    · rw [if_neg d]; omega

/-! ### small functions -/
theorem ok99 (c : Int) (xs : List Int) : ∀ (d i k : Nat), i + d = xs.length → d < k → xs.length ≤ 1000 → Okk (run step99 k (J99.j2 xs c (i : Int))) (fun _ => True)
  | d, i, 0, _, h, _ => by omega
  | 0, i, k + 1, h, _, hs => by
    rw [run_succ]; simp only [step99]
    have e : decide ((i : Int) < ((xs.length : Nat) : Int)) = false := decide_eq_false (by omega)
    rw [e]; exact .ret trivial
  | d + 1, i, k + 1, h, hk, hs => by
    rw [run_succ]; simp only [step99]
    have e : decide ((i : Int) < ((xs.length : Nat) : Int)) = true := decide_eq_true (by omega)
    rw [e, cond_true]; (repeat (refine Okk.chk (by omega) ?_))
    rw [cond_true, wsucc (n := xs.length) (by omega) (by omega)]
    exact .cnd (fun _ => .ret trivial) (fun _ => ok99 c xs d (i + 1) k (by omega) (by omega) hs)
theorem ok97 (k : Nat) (hk : 2000 < k) (x : S52) (hx : x.f2.length ≤ 1000) (a b c d : Int) : Okk (f97 k (x, a, b, c, d)) (fun _ => True) := by
  simp only [f97, start97]
  refine .cnd (fun _ => .cnd (fun _ => .ret trivial) fun _ => .ret trivial) (fun _ => .cnd (fun _ => .ret trivial) fun _ => .bnd (ok99 b x.f2 x.f2.length 0 k (by omega) (by omega) hx) fun r _ => .cnd (fun _ => .ret trivial) fun _ => .ret trivial)
theorem ok88 (k : Nat) (hk : 2000 < k) (x : S52) (hx : x.f2.length ≤ 1000) (ns : List S34) (hl : ns.length = 10) (i w : Int) (h0 : 0 ≤ i) (h1 : i < 10) : Okk (f88 k (⟨ns⟩, x, i, w)) (fun _ => True) := by
  simp only [f88, start88]
  (repeat (refine Okk.chk (by omega) ?_))
  exact .bnd (ok97 k hk x hx _ _ _ _) fun r _ => .ret trivial
theorem ok70 (k : Nat) (hk : 2000 < k) (x : S52) (hx : x.f2.length ≤ 1000) (ns : List S34) (hl : ns.length = 10) (i w : Int) (h0 : 0 ≤ i) (h1 : i < 10) : Okk (f70 k (⟨ns⟩, x, i, w)) (fun r => r = 0 → (rd34 ns i).f0 = 2) := by
  simp only [f70, start70]
  (repeat (refine Okk.chk (by omega) ?_))
  refine .cnd (fun _ => .ret (fun h => absurd h (by decide))) fun c => .bnd (ok88 k hk x hx ns hl i w h0 h1) fun r _ => .cnd (fun _ => .ret (fun h => absurd h (by decide))) fun _ => .ret fun _ => ?_
  simpa using c
theorem ok71 (n : S34) (s : ByteArray) (hn : n.f8.length ≤ 1000) : ∀ (d i k : Nat), i + d = n.f8.length → d < k → Okk (run step71 k (J71.j2 s (i : Int) n.f0 n.f1 n.f2 n.f3 n.f4 n.f5 n.f6 n.f7 n.f8)) (fun r => r = -1 ∨ (0 ≤ r ∧ r < ((n.f8.length : Nat) : Int)))
  | d, i, 0, _, h => by omega
  | 0, i, k + 1, h, _ => by
    rw [run_succ]; simp only [step71]
    have e : decide ((i : Int) < ((n.f8.length : Nat) : Int)) = false := decide_eq_false (by omega)
    rw [e]; exact .ret (.inl rfl)
  | d + 1, i, k + 1, h, hk => by
    rw [run_succ]; simp only [step71]
    have e : decide ((i : Int) < ((n.f8.length : Nat) : Int)) = true := decide_eq_true (by omega)
    rw [e, cond_true]; (repeat (refine Okk.chk (by omega) ?_))
    rw [cond_true, wsucc (n := n.f8.length) (by omega) (by omega)]
    exact .cnd (fun _ => .ret (.inr ⟨by omega, by omega⟩)) (fun _ => ok71 n s hn d (i + 1) k (by omega) (by omega))
theorem ok71' (k : Nat) (hk : 2000 < k) (n : S34) (hn : Nd n) (s : ByteArray) : Okk (f71 k (n, s)) (fun r => r = -1 ∨ (0 ≤ r ∧ r < ((n.f8.length : Nat) : Int))) :=
  have := hn.l
  ok71 n s (by omega) n.f8.length 0 k (by omega) (by omega)
theorem ok44 (k : Nat) (ns : List S34) (hl : ns.length = 10) (i : Int) (h0 : 0 ≤ i) (h1 : i < 10) : Okk (f44 k (⟨ns⟩, i)) (fun _ => True) := by
  simp only [f44, start44, f35_eq, in_eq, Option.bind_some]
  refine .cnd (fun _ => ?_) (fun _ => .ret trivial)
  (repeat (refine Okk.chk (by omega) ?_))
  exact .ret trivial

/-! ### a copy -/
theorem ok80 (ns : List S34) (hl : ns.length = 10) (hn : ∀ n ∈ ns, Nd n) : ∀ (d i k : Nat), i + d = 10 → d < k → Okk (run step80 k (J80.j3 (i : Int) ns (ns.take i))) (fun r => r = (⟨ns⟩, ()))
  | d, i, 0, _, h => by omega
  | 0, i, k + 1, h, _ => by
    rw [run_succ]; simp only [step80]
    have e : decide ((i : Int) < ((ns.length : Nat) : Int)) = false := decide_eq_false (by omega)
    rw [e, List.take_of_length_le (by omega)]; exact .ret rfl
  | d + 1, i, k + 1, h, hk => by
    rw [run_succ]; simp only [step80]
    have hi : i < ns.length := by omega
    have e : decide ((i : Int) < ((ns.length : Nat) : Int)) = true := decide_eq_true (by omega)
    rw [e, cond_true, rd34_at hi, wsucc (n := 10) (by omega) (by omega)]
    have := (hn _ (List.getElem_mem hi)).l
    refine .chk (by omega) ?_
    rw [cond_true]
    refine .chk (by simp; omega) (.chk (by simp; omega) ?_)
    rw [List.nil_append, ← List.take_succ_eq_append_getElem hi]
    exact ok80 ns hl hn d (i + 1) k (by omega) (by omega)
theorem ok80' (k : Nat) (hk : 2000 < k) {R : Nat} {ns : List S34} (I : Inv R ns) : Okk (f80 k ⟨ns⟩) (fun r => r = (⟨ns⟩, ())) := ok80 ns I.len I.nd 10 0 k rfl (by omega)

/-! ### put, free, take -/
theorem ok93 (ns : List S34) (hl : ns.length = 10) (id : Int) (h0 : 0 ≤ id) (h1 : id < 10) (hn : (rd34 ns id).f8.length ≤ 6) (s : ByteArray) (a : Int) : ∀ (d i k : Nat) (b : Bool) (out : List S47), i + d = (rd34 ns id).f8.length → 3 * d + 1 < k → out.length ≤ i + (cond b 1 0) →
    (∀ x ∈ out, x ∈ (rd34 ns id).f8 ∨ x = ⟨s, a⟩) →
    Okk (run step93 k (J93.j4 id b (i : Int) ns s a out)) (fun r => ∃ l : List S47, r.2 = ns.set id.toNat ⟨(rd34 ns id).f0, (rd34 ns id).f1, (rd34 ns id).f2, (rd34 ns id).f3, (rd34 ns id).f4, (rd34 ns id).f5, (rd34 ns id).f6, (rd34 ns id).f7, l⟩ ∧ l.length ≤ (rd34 ns id).f8.length + 1 ∧ ∀ x ∈ l, x ∈ (rd34 ns id).f8 ∨ x = ⟨s, a⟩)
  | 0, i, 0, b, out, _, h, _, _ => by omega
  | 0, i, k + 1, b, out, h, _, ho, hm => by
    rw [run_succ]; simp only [step93]
    (repeat (refine Okk.chk (by omega) ?_))
    have e : decide ((i : Int) < (((rd34 ns id).f8.length : Nat) : Int)) = false := decide_eq_false (by omega)
    rw [e, cond_false]
    cases b
    · simp only [Bool.not_false, cond_true]
      simp only [cond_false] at ho
      refine .chk (by simp; omega) ?_
      (repeat (refine Okk.chk (by omega) ?_))
      refine .ret ⟨_, rfl, by simp; omega, fun x hx => ?_⟩
      rcases List.mem_append.mp hx with h4 | h4
      · exact hm x h4
      · exact .inr (List.mem_singleton.mp h4)
    · simp only [Bool.not_true, cond_false]
      simp only [cond_true] at ho
      (repeat (refine Okk.chk (by omega) ?_))
      exact .ret ⟨_, rfl, by omega, hm⟩
  | d + 1, i, 0, b, out, _, h, _, _ => by omega
  | d + 1, i, 1, b, out, _, h, _, _ => by omega
  | d + 1, i, 2, b, out, _, h, _, _ => by omega
  | d + 1, i, k + 3, b, out, h, hk, ho, hm => by
    have hi : (i : Int) < (((rd34 ns id).f8.length : Nat) : Int) := by omega
    have mem := mem47 (l := (rd34 ns id).f8) (i := (i : Int)) (by omega) hi
    have j10 : ∀ (k' : Nat), 3 * d + 1 < k' → ∀ (b : Bool) (out : List S47), out.length ≤ i + (cond b 1 0) → (∀ x ∈ out, x ∈ (rd34 ns id).f8 ∨ x = ⟨s, a⟩) → Okk (run step93 (k' + 1) (J93.j10 id b (i : Int) ns s a out (rd47 (rd34 ns id).f8 i).f0 (rd47 (rd34 ns id).f8 i).f1)) (fun r => ∃ l : List S47, r.2 = ns.set id.toNat ⟨(rd34 ns id).f0, (rd34 ns id).f1, (rd34 ns id).f2, (rd34 ns id).f3, (rd34 ns id).f4, (rd34 ns id).f5, (rd34 ns id).f6, (rd34 ns id).f7, l⟩ ∧ l.length ≤ (rd34 ns id).f8.length + 1 ∧ ∀ x ∈ l, x ∈ (rd34 ns id).f8 ∨ x = ⟨s, a⟩) := by
      intro k' hk' b out ho hm
      rw [run_succ]; simp only [step93]
      have : (cond b 1 0) ≤ 1 := by cases b <;> decide
      refine .chk (by simp; omega) ?_
      rw [wsucc (n := (rd34 ns id).f8.length) (by omega) (by omega)]
      refine ok93 ns hl id h0 h1 hn s a d (i + 1) k' b _ (by omega) (by omega) (by simp; omega) fun x hx => ?_
      rcases List.mem_append.mp hx with h4 | h4
      · exact hm x h4
      · rw [List.mem_singleton.mp h4]; exact .inl mem
    rw [run_succ]; simp only [step93]
    (repeat (refine Okk.chk (by omega) ?_))
    rw [decide_eq_true hi, cond_true]
    (repeat (refine Okk.chk (by omega) ?_))
    rw [cond_true]
    refine .cnd (fun c => .cnd (fun _ => ?_) (fun _ => j10 (k + 1) (by omega) b out ho hm)) (fun _ => j10 (k + 1) (by omega) b out ho hm)
    have hb : b = false := by simpa using c
    subst hb
    simp only [cond_false] at ho
    rw [run_succ]; simp only [step93]
    refine .chk (by simp; omega) ?_
    refine j10 k (by omega) true _ (by simp; omega) fun x hx => ?_
    rcases List.mem_append.mp hx with h4 | h4
    · exact hm x h4
    · exact .inr (List.mem_singleton.mp h4)
theorem ok93' (k : Nat) (hk : 2000 < k) (ns : List S34) (hl : ns.length = 10) (id : Int) (h0 : 0 ≤ id) (h1 : id < 10) (hn : (rd34 ns id).f8.length ≤ 6) (e : S47) :
    Okk (f93 k (ns, id, e)) (fun r => ∃ l : List S47, r.2 = ns.set id.toNat ⟨(rd34 ns id).f0, (rd34 ns id).f1, (rd34 ns id).f2, (rd34 ns id).f3, (rd34 ns id).f4, (rd34 ns id).f5, (rd34 ns id).f6, (rd34 ns id).f7, l⟩ ∧ l.length ≤ (rd34 ns id).f8.length + 1 ∧ ∀ x ∈ l, x ∈ (rd34 ns id).f8 ∨ x = e) :=
  ok93 ns hl id h0 h1 hn e.f0 e.f1 _ 0 k false [] (Nat.zero_add _) (by omega) (by simp) (fun x h => by cases h)
/-- An entry is put. -/
theorem put_inv (k : Nat) (hk : 2000 < k) {R : Nat} {ns : List S34} (hl : ns.length = 10) (hn : ∀ n ∈ ns, Nd n) {ρ : Int → Nat} (hb : ∀ i, ρ i ≤ R) (hr : RK ns ρ) {id : Int} (h0 : 0 ≤ id) (h1 : id < 10) (h6 : (rd34 ns id).f8.length ≤ 5) {e : S47} (he : 0 ≤ e.f1 ∧ e.f1 ≤ 9 ∧ e.f0.size ≤ 4)
    (h2 : (rd34 ns e.f1).f0 = 2 → ρ e.f1 < ρ id) : Okk (f93 k (ns, id, e)) (fun r => Inv R r.2) := by
  refine (ok93' k hk ns hl id h0 h1 (by omega) e).mono fun r ⟨l, hr2, h3, h4⟩ => ?_
  have hd : Nd (rd34 ns id) := hn _ (rd34_mem h0 (by omega))
  have hx : Nd (⟨(rd34 ns id).f0, (rd34 ns id).f1, (rd34 ns id).f2, (rd34 ns id).f3, (rd34 ns id).f4, (rd34 ns id).f5, (rd34 ns id).f6, (rd34 ns id).f7, l⟩ : S34) :=
    ⟨by show l.length ≤ 6; omega, hd.t, fun x hx => (h4 x hx).elim (hd.e x) fun h => h ▸ he⟩
  rw [hr2]
  exact ⟨by rw [List.length_set]; exact hl, set_nd hn _ hx, ρ, hb, hr.set hl hn h0 h1 hx (fun h => h) fun x hx => (h4 x hx).elim .inl fun h => .inr (h ▸ h2)⟩
theorem nd0 : Nd (⟨0, 0, 0, 0, 0, 0, false, (⟨#[]⟩ : ByteArray), ([] : List S47)⟩ : S34) := ⟨by decide, by decide, fun e h => by cases h⟩
theorem ok94 (k : Nat) {R : Nat} {ns : List S34} (I : Inv R ns) (i : Int) (h0 : 0 ≤ i) (h1 : i < 10) : Okk (f94 k (ns, i)) (fun r => Inv R r.2) := by
  have hl := I.len
  simp only [f94, start94]
  refine .cnd (fun _ => ?_) (fun _ => .ret I)
  (repeat (refine Okk.chk (by omega) ?_))
  refine .cnd (fun _ => ?_) (fun _ => .ret I)
  (repeat (refine Okk.chk (by omega) ?_))
  refine .cnd (fun _ => ?_) (fun _ => .ret I)
  (repeat (refine Okk.chk (by omega) ?_))
  exact .ret (I.upd h0 h1 nd0 (fun h => by cases h) (fun e h => by cases h))
theorem ok95 (k : Nat) {R : Nat} {ns : List S34} (hl : ns.length = 10) (hn : ∀ n ∈ ns, Nd n) (i j : Int) (h0 : 0 ≤ i) (h1 : i < 10) (j0 : 0 ≤ j) (j1 : j < (((rd34 ns i).f8.length : Nat) : Int)) : Okk (f95 k (ns, i, j)) (fun r => ∃ l : List S47, r.2 = ns.set i.toNat ⟨(rd34 ns i).f0, (rd34 ns i).f1, (rd34 ns i).f2, (rd34 ns i).f3, (rd34 ns i).f4, (rd34 ns i).f5, (rd34 ns i).f6, (rd34 ns i).f7, l⟩ ∧ l.length + 1 ≤ (rd34 ns i).f8.length ∧ ∀ x ∈ l, x ∈ (rd34 ns i).f8) := by
  have hd : Nd (rd34 ns i) := hn _ (rd34_mem h0 (by omega))
  have := hd.l
  simp only [f95, start95]
  rw [w64_id (n := j + 1) (by omega) (by omega)]
  (repeat (refine Okk.chk (by omega) ?_))
  refine .chk (by simp; omega) ?_
  (repeat (refine Okk.chk (by omega) ?_))
  refine .chk (by simp; omega) ?_
  (repeat (refine Okk.chk (by omega) ?_))
  refine .ret ⟨_, rfl, by simp; omega, fun x hx => ?_⟩
  simp only [List.nil_append, List.drop_zero, List.take_length] at hx
  rcases List.mem_append.mp hx with h4 | h4
  · exact List.mem_of_mem_take h4
  · exact List.mem_of_mem_drop h4
end Go.Sx
