/- The plain law FnFsOk, over what its functions compute: a part. No further condition. -/
import Derived.Test.YtpljcphiaajjaaaSzPFnFsOkg
set_option linter.unusedVariables false
set_option linter.unusedSimpArgs false
namespace Go.Sx
open Go.RowKit Go.Lib
set_option linter.unusedVariables false
set_option linter.unusedSimpArgs false

/-! ### is a folder above another -/
theorem ok96_loop (ns : List S34) (hl : ns.length = 10) (hn : ∀ n ∈ ns, Nd n) (top id : Int) (h0 : 0 ≤ top) (h1 : top < 10) (hne : top ≠ id) (g : S27 × Int × Int → Option Bool)
    (hg : ∀ e ∈ (rd34 ns top).f8, (rd34 ns e.f1).f0 = 2 → Okk (g (⟨ns⟩, e.f1, id)) (fun b => b = false → ¬ Rch ns e.f1 id)) : ∀ (d j m : Nat), j + d = (rd34 ns top).f8.length → 2 * d + 1 ≤ m →
    (∀ e ∈ (rd34 ns top).f8.take j, (rd34 ns e.f1).f0 = 2 → ¬ Rch ns e.f1 id) → Okk (run (step96 g) m (J96.j4 top id (j : Int) ns)) (fun b => b = false → ¬ Rch ns top id)
  | d, j, 0, _, h, _ => by omega
  | 0, j, m + 1, h, hm, hs => by
    rw [run_succ]; simp only [step96]
    (repeat (refine Okk.chk (by omega) ?_))
    rw [decide_eq_false (by omega : ¬ ((j : Int) < (((rd34 ns top).f8.length : Nat) : Int))), cond_false]
    refine .ret fun _ hr => ?_
    rw [List.take_of_length_le (by omega)] at hs
    cases hr with
    | refl => exact hne rfl
    | step _ e _ he h2 hr => exact hs e he h2 hr
  | d + 1, j, 1, h, hm, hs => by omega
  | d + 1, j, m + 2, h, hm, hs => by
    have hj : j < (rd34 ns top).f8.length := by omega
    have mem : (rd34 ns top).f8[j] ∈ (rd34 ns top).f8 := List.getElem_mem hj
    have he := (hn _ (rd34_mem h0 (by omega))).e _ mem
    have nxt : ((rd34 ns (rd34 ns top).f8[j].f1).f0 = 2 → ¬ Rch ns (rd34 ns top).f8[j].f1 id) → Okk (run (step96 g) (m + 1) (J96.j5 top id (j : Int) ns)) (fun b => b = false → ¬ Rch ns top id) := by
      intro hx
      rw [run_succ]; simp only [step96]
      rw [wsucc (n := (rd34 ns top).f8.length) hj (by have := (hn _ (rd34_mem (i := top) h0 (by omega))).l; omega)]
      refine ok96_loop ns hl hn top id h0 h1 hne g hg d (j + 1) m (by omega) (by omega) fun e he => ?_
      rw [List.take_succ_eq_append_getElem hj] at he
      rcases List.mem_append.mp he with h4 | h4
      · exact hs e h4
      · rw [List.mem_singleton.mp h4]; exact hx
    rw [run_succ]; simp only [step96]
    (repeat (refine Okk.chk (by omega) ?_))
    rw [decide_eq_true (by omega : ((j : Int) < (((rd34 ns top).f8.length : Nat) : Int))), cond_true]
    (repeat (refine Okk.chk (by omega) ?_))
    rw [rd47_at hj] 
    (repeat (refine Okk.chk (by omega) ?_))
    refine .cnd (fun c => ?_) (fun c => nxt fun h2 => absurd h2 (by simpa using c))
    have c2 : (rd34 ns (rd34 ns top).f8[j].f1).f0 = 2 := by simpa using c
    refine .bnd (hg _ mem c2) fun b hb => .cnd (fun _ => .ret (fun h => by cases h)) (fun h => nxt fun _ => hb h)
theorem ok96 (ns : List S34) (hl : ns.length = 10) (hn : ∀ n ∈ ns, Nd n) {ρ : Int → Nat} (hr : RK ns ρ) (id : Int) : ∀ (n k : Nat) (top : Int), ρ top < n → n + 30 ≤ k → 0 ≤ top → top < 10 → Okk (f96 k (⟨ns⟩, top, id)) (fun b => b = false → ¬ Rch ns top id)
  | 0, k, top, h, _, _, _ => by omega
  | n + 1, 0, top, h, hk, h0, h1 => by omega
  | n + 1, k + 1, top, h, hk, h0, h1 => by
    change Okk (start96 (f96 k) (run (step96 (f96 k)) k) (⟨ns⟩, top, id)) _
    simp only [start96]
    refine .cnd (fun _ => .ret (fun h => by cases h)) (fun c => ?_)
    have c2 : top ≠ id := by simpa using c
    have := (hn _ (rd34_mem (i := top) h0 (by omega))).l
    refine ok96_loop ns hl hn top id h0 h1 c2 (f96 k) (fun e he h2 => ?_) (rd34 ns top).f8.length 0 k (by omega) (by omega) (fun e h => by cases h)
    have hb := (hn _ (rd34_mem h0 (by omega))).e e he
    exact ok96 ns hl hn hr id n k e.f1 (by have := hr top h0 h1 e he h2; omega) (by omega) hb.1 (by omega)

/-! ### make -/
theorem mk_inv (k : Nat) (hk : 2000 < k) {R : Nat} {ns : List S34} (I : Inv R ns) {id at' : Int} (h0 : 0 ≤ id) (h1 : id < 10) (hf : (rd34 ns id).f0 = 2) (h5 : (rd34 ns id).f8.length ≤ 5) (a0 : 0 ≤ at') (a1 : at' < 10) (hz : (rd34 ns at').f0 = 0) (s : ByteArray) (hs : s.size ≤ 4) (kd md u g : Int) :
    Okk (f93 k (ns.set at'.toNat (⟨kd, md, u, g, 1, 0, false, (⟨#[]⟩ : ByteArray), ([] : List S47)⟩ : S34), id, ⟨s, at'⟩)) (fun r => Inv (R + 1) r.2) := by
  obtain ⟨ρ, hb, hr⟩ := I.rk
  have hl := I.len
  have hne : id ≠ at' := fun h => by rw [h, hz] at hf; cases hf
  have e1 : ∀ j : Int, 0 ≤ j → rd34 (ns.set at'.toNat (⟨kd, md, u, g, 1, 0, false, (⟨#[]⟩ : ByteArray), ([] : List S47)⟩ : S34)) j = if j = at' then ⟨kd, md, u, g, 1, 0, false, (⟨#[]⟩ : ByteArray), ([] : List S47)⟩ else rd34 ns j := fun j hj => rd34_set a0 (by omega) hj
  have hx : Nd (⟨kd, md, u, g, 1, 0, false, (⟨#[]⟩ : ByteArray), ([] : List S47)⟩ : S34) := ⟨Nat.zero_le _, by show (0 : Nat) ≤ 40; omega, fun e h => by cases h⟩
  have hn1 := set_nd I.nd at'.toNat hx
  refine put_inv k hk (R := R + 1) (ρ := fun j => if j = at' then 0 else ρ j + 1) (by rw [List.length_set]; exact hl) hn1 (fun i => ?_) ?_ h0 h1 ?_ (e := ⟨s, at'⟩) ⟨a0, by show at' ≤ 9; omega, hs⟩ (fun _ => ?_)
  · by_cases c : i = at'
    · simp [c]
    · simp [c]; exact hb i
  · intro j j0 j1 e he h2
    rw [e1 j j0] at he
    by_cases c : j = at'
    · rw [if_pos c] at he; cases he
    · rw [if_neg c] at he
      have h3 := ((I.at_ j0 j1).e e he).1
      simp only [if_neg c]
      by_cases d : e.f1 = at'
      · simp [d]
      · rw [e1 _ h3, if_neg d] at h2
        have := hr j j0 j1 e he h2
        simp only [if_neg d]; omega
  · rw [e1 id h0, if_neg hne]; exact h5
  · simp [hne]
theorem ok81_loop (k : Nat) (hk : 2000 < k) {R : Nat} {ns : List S34} (I : Inv R ns) {id : Int} (h0 : 0 ≤ id) (h1 : id < 10) (hf : (rd34 ns id).f0 = 2) (s : ByteArray) (hs : s.size ≤ 4) (kd md u re : Int) (gs : List Int) (g70 : S27 × S52 × Int × Int → Option (Int)) (g71 : S34 × ByteArray → Option (Int)) :
    ∀ (d m : Nat) (a : Int), d ≤ 10 → 2 * d + 5 ≤ m → (a = -1 ∨ (0 ≤ a ∧ a < 10 ∧ (rd34 ns a).f0 = 0)) → Okk (run (step81 g70 g71 (f93 k)) m (J81.j8 id s kd md a ((d : Int) - 1) ns u re gs)) (fun r => Inv (R + 1) r.2)
  | d, 0, a, _, h, _ => by omega
  | d, 1, a, _, h, _ => by omega
  | 0, m + 2, a, hd, hm, ha => by
    have hl := I.len
    rw [run_succ]; simp only [step81]
    rw [decide_eq_false (by omega : ¬ (((0 : Nat) : Int) - 1 ≥ 0)), cond_false]
    refine .cnd (fun _ => .ret (I.mono (by omega))) (fun c => ?_)
    have c2 : ¬ a < 0 := of_decide_eq_false c
    obtain ⟨a0, a1, hz⟩ : 0 ≤ a ∧ a < 10 ∧ (rd34 ns a).f0 = 0 := by
      rcases ha with h | h
      · omega
      · exact h
    (repeat (refine Okk.chk (by omega) ?_))
    refine .cnd (fun _ => .ret (I.mono (by omega))) (fun c5 => ?_)
    have h5 : (rd34 ns id).f8.length ≤ 5 := by have := of_decide_eq_false c5; omega
    rw [run_succ]; simp only [step81]
    refine .cnd (fun cg => ?_) (fun _ => ?_)
    · have := of_decide_eq_true cg
      (repeat (refine Okk.chk (by omega) ?_))
      exact .bnd (mk_inv k hk I h0 h1 hf h5 a0 a1 hz s hs kd md u _) fun r hr => .ret hr
    · (repeat (refine Okk.chk (by omega) ?_))
      exact .bnd (mk_inv k hk I h0 h1 hf h5 a0 a1 hz s hs kd md u _) fun r hr => .ret hr
  | d + 1, m + 2, a, hd, hm, ha => by
    have hl := I.len
    have e : w64 (((d + 1 : Nat) : Int) - 1 - 1) = (d : Int) - 1 := by rw [w64_id (by omega) (by omega)]; omega
    have nxt : ∀ b, (b = -1 ∨ (0 ≤ b ∧ b < 10 ∧ (rd34 ns b).f0 = 0)) → Okk (run (step81 g70 g71 (f93 k)) (m + 1) (J81.j9 id s kd md b (((d + 1 : Nat) : Int) - 1) ns u re gs)) (fun r => Inv (R + 1) r.2) := by
      intro b hb
      rw [run_succ]; simp only [step81, e]
      exact ok81_loop k hk I h0 h1 hf s hs kd md u re gs g70 g71 d m b (by omega) (by omega) hb
    rw [run_succ]; simp only [step81]
    rw [decide_eq_true (by omega : (((d + 1 : Nat) : Int) - 1 ≥ 0)), cond_true]
    (repeat (refine Okk.chk (by omega) ?_))
    refine .cnd (fun c => nxt _ (.inr ⟨by omega, by omega, by simpa using c⟩)) (fun _ => nxt _ ha)
theorem ok81 (k : Nat) (hk : 2000 < k) {R : Nat} {ns : List S34} (I : Inv R ns) (x : S52) (hx : x.f2.length ≤ 1000) {id : Int} (h0 : 0 ≤ id) (h1 : id < 10) (s : ByteArray) (hs : s.size ≤ 4) (kd md : Int) :
    Okk (f81 k (ns, x, id, s, kd, md)) (fun r => Inv (R + 1) r.2) := by
  have hl := I.len
  simp only [f81, start81]
  refine .bnd (ok70 k hk x hx ns hl id 3 h0 h1) fun r hr => .cnd (fun _ => .ret (I.mono (by omega))) fun c => ?_
  have hf := hr (by simpa using c)
  (repeat (refine Okk.chk (by omega) ?_))
  refine .bnd (ok71' k hk _ (I.at_ h0 h1) s) fun r1 _ => .cnd (fun _ => .ret (I.mono (by omega))) fun _ => ?_
  have e : w64 (((ns.length : Nat) : Int) - 1) = ((10 : Nat) : Int) - 1 := by rw [hl]; decide
  rw [e]
  exact ok81_loop k hk I h0 h1 hf s hs kd md _ _ _ _ _ 10 k (-1) (by omega) (by omega) (.inl rfl)

/-! ### link -/
theorem ok82 (k : Nat) (hk : 2000 < k) {R : Nat} {ns : List S34} (I : Inv R ns) (x : S52) (hx : x.f2.length ≤ 1000) {a id : Int} (a0 : 0 ≤ a) (a1 : a < 10) (h0 : 0 ≤ id) (h1 : id < 10) (s : ByteArray) (hs : s.size ≤ 4) :
    Okk (f82 k (ns, x, a, id, s)) (fun r => Inv R r.2) := by
  have hl := I.len
  simp only [f82, start82]
  (repeat (refine Okk.chk (by omega) ?_))
  refine .cnd (fun _ => .ret I) fun c0 => ?_
  have hk1 : (rd34 ns a).f0 = 1 := by simpa using c0
  refine .bnd (ok70 k hk x hx ns hl id 3 h0 h1) fun r hr => .cnd (fun _ => .ret I) fun c => ?_
  have hf := hr (by simpa using c)
  (repeat (refine Okk.chk (by omega) ?_))
  refine .bnd (ok71' k hk _ (I.at_ h0 h1) s) fun r1 _ => .cnd (fun _ => .ret I) fun _ => ?_
  (repeat (refine Okk.chk (by omega) ?_))
  refine .cnd (fun _ => .ret I) fun c5 => ?_
  have h5 : (rd34 ns id).f8.length ≤ 5 := by have := of_decide_eq_false c5; omega
  (repeat (refine Okk.chk (by omega) ?_))
  refine .cnd (fun _ => .ret I) fun _ => ?_
  (repeat (refine Okk.chk (by omega) ?_))
  have hne : id ≠ a := fun h => by rw [h, hk1] at hf; cases hf
  have hd := I.at_ a0 a1
  have J := I.upd a0 a1 (x := ⟨(rd34 ns a).f0, (rd34 ns a).f1, (rd34 ns a).f2, (rd34 ns a).f3, w64 ((rd34 ns a).f4 + 1), (rd34 ns a).f5, (rd34 ns a).f6, (rd34 ns a).f7, (rd34 ns a).f8⟩) ⟨hd.l, hd.t, hd.e⟩ (fun h => h) (fun e h => h)
  obtain ⟨ρ, hb, hr⟩ := J.rk
  refine .bnd (put_inv k hk J.len J.nd hb hr h0 h1 ?_ (e := ⟨s, a⟩) ⟨a0, by show a ≤ 9; omega, hs⟩ (fun h => ?_)) fun r hr => .ret hr
  · rw [rd34_set a0 (by omega) h0, if_neg hne]; exact h5
  · exfalso
    rw [rd34_set a0 (by omega) a0, if_pos rfl] at h
    simp only [hk1] at h
    exact absurd h (by decide)

/-! ### drop -/
theorem drop_fin (k : Nat) (hk : 2000 < k) {R : Nat} {ns : List S34} (J : Inv R ns) {id j a : Int} (h0 : 0 ≤ id) (h1 : id < 10) (j0 : 0 ≤ j) (j1 : j < (((rd34 ns id).f8.length : Nat) : Int)) (a0 : 0 ≤ a) (a1 : a < 10) :
    Okk ((f95 k (ns, id, j)).bind fun r2 => (f94 k (r2.snd, a)).bind fun r3 => some (((), ((0 : Int), ())), r3.snd)) (fun r => Inv R r.2) := by
  refine .bnd (ok95 k (R := R) J.len J.nd id j h0 h1 j0 j1) fun r ⟨l, h2, h3, h4⟩ => ?_
  have hd2 := J.at_ h0 h1
  have := hd2.l
  have K := J.upd h0 h1 (x := ⟨(rd34 ns id).f0, (rd34 ns id).f1, (rd34 ns id).f2, (rd34 ns id).f3, (rd34 ns id).f4, (rd34 ns id).f5, (rd34 ns id).f6, (rd34 ns id).f7, l⟩) ⟨by show l.length ≤ 6; omega, hd2.t, fun e h => hd2.e e (h4 e h)⟩ (fun h => h) h4
  rw [← h2] at K
  exact .bnd (ok94 k K a a0 a1) fun r hr => .ret hr
theorem drop_inv (k : Nat) (hk : 2000 < k) {R : Nat} {ns : List S34} (I : Inv R ns) {id j a v : Int} (h0 : 0 ≤ id) (h1 : id < 10) (j0 : 0 ≤ j) (j1 : j < (((rd34 ns id).f8.length : Nat) : Int)) (a0 : 0 ≤ a) (a1 : a < 10) :
    Okk ((f95 k (ns.set a.toNat ⟨(rd34 ns a).f0, (rd34 ns a).f1, (rd34 ns a).f2, (rd34 ns a).f3, v, (rd34 ns a).f5, (rd34 ns a).f6, (rd34 ns a).f7, (rd34 ns a).f8⟩, id, j)).bind fun r2 => (f94 k (r2.snd, a)).bind fun r3 => some (((), ((0 : Int), ())), r3.snd)) (fun r => Inv R r.2) := by
  have hl := I.len
  have hd := I.at_ a0 a1
  have J := I.upd a0 a1 (x := ⟨(rd34 ns a).f0, (rd34 ns a).f1, (rd34 ns a).f2, (rd34 ns a).f3, v, (rd34 ns a).f5, (rd34 ns a).f6, (rd34 ns a).f7, (rd34 ns a).f8⟩) ⟨hd.l, hd.t, hd.e⟩ (fun h => h) (fun e h => h)
  refine drop_fin k hk J h0 h1 j0 ?_ a0 a1
  rw [rd34_set a0 (by omega) h0]
  split
  · rename_i c; subst c; exact j1
  · exact j1
theorem ok83 (k : Nat) (hk : 2000 < k) {R : Nat} {ns : List S34} (I : Inv R ns) (x : S52) (hx : x.f2.length ≤ 1000) {id : Int} (h0 : 0 ≤ id) (h1 : id < 10) (s : ByteArray) :
    Okk (f83 k (ns, x, id, s)) (fun r => Inv R r.2) := by
  have hl := I.len
  simp only [f83, start83]
  refine .bnd (ok70 k hk x hx ns hl id 3 h0 h1) fun r hr => .cnd (fun _ => .ret I) fun c => ?_
  (repeat (refine Okk.chk (by omega) ?_))
  refine .bnd (ok71' k hk _ (I.at_ h0 h1) s) fun r1 hr1 => .cnd (fun _ => .ret I) fun c1 => ?_
  have := of_decide_eq_false c1
  obtain ⟨j0, j1⟩ : 0 ≤ r1 ∧ r1 < (((rd34 ns id).f8.length : Nat) : Int) := by
    rcases hr1 with h | h
    · omega
    · exact h
  obtain ⟨a0, a1, _⟩ := (I.at_ h0 h1).e _ (mem47 j0 j1)
  generalize rd47 (rd34 ns id).f8 r1 = en at *
  (repeat (refine Okk.chk (by omega) ?_))
  refine .cnd (fun _ => .cnd (fun _ => .ret I) fun _ => .cnd (fun _ => .ret I) fun _ => ?_) fun _ => ?_
  · (repeat (refine Okk.chk (by omega) ?_))
    exact drop_inv k hk I h0 h1 j0 j1 a0 (by omega)
  · (repeat (refine Okk.chk (by omega) ?_))
    exact drop_inv k hk I h0 h1 j0 j1 a0 (by omega)

/-! ### move -/
theorem mv_inv (k : Nat) (hk : 2000 < k) {R : Nat} {ns : List S34} (I : Inv R ns) {id j a to : Int} (h0 : 0 ≤ id) (h1 : id < 10) (j0 : 0 ≤ j) (j1 : j < (((rd34 ns id).f8.length : Nat) : Int)) (a0 : 0 ≤ a) (a1 : a < 10) (t0 : 0 ≤ to) (t1 : to < 10) (s : ByteArray) (hs : s.size ≤ 4)
    (hr : (rd34 ns a).f0 = 2 → ¬ Rch ns a to) (h5 : id ≠ to → (rd34 ns to).f8.length ≤ 5) :
    Okk ((f95 k (ns, id, j)).bind fun r5 => (f93 k (r5.snd, to, ⟨s, a⟩)).bind fun r6 => some (((), ((0 : Int), ())), r6.snd)) (fun r => Inv (R + R + 1) r.2) := by
  have hl := I.len
  obtain ⟨ρ0, hb0, hr0⟩ := I.rk
  obtain ⟨ρ, hb, hrk, hlt⟩ : ∃ ρ : Int → Nat, (∀ i, ρ i ≤ R + R + 1) ∧ RK ns ρ ∧ ((rd34 ns a).f0 = 2 → ρ a < ρ to) := by
    by_cases c : (rd34 ns a).f0 = 2
    · refine ⟨rho2 ns ρ0 a, fun i => ?_, hr0.rho2 a, fun _ => ?_⟩
      · have := hb0 i
        have := hb0 a
        unfold rho2; split <;> omega
      · unfold rho2
        rw [if_pos (.refl a), if_neg (hr c)]; omega
    · exact ⟨ρ0, fun i => by have := hb0 i; omega, hr0, fun h => absurd h c⟩
  refine .bnd (ok95 k (R := R) I.len I.nd id j h0 h1 j0 j1) fun r ⟨l, h2, h3, h4⟩ => ?_
  have hd := I.at_ h0 h1
  have := hd.l
  have hx : Nd (⟨(rd34 ns id).f0, (rd34 ns id).f1, (rd34 ns id).f2, (rd34 ns id).f3, (rd34 ns id).f4, (rd34 ns id).f5, (rd34 ns id).f6, (rd34 ns id).f7, l⟩ : S34) := ⟨by show l.length ≤ 6; omega, hd.t, fun e h => hd.e e (h4 e h)⟩
  have hrk1 := hrk.set I.len I.nd h0 h1 hx (fun h => h) fun e h => .inl (h4 e h)
  rw [h2]
  refine .bnd (put_inv k hk (by rw [List.length_set]; exact hl) (set_nd I.nd _ hx) hb hrk1 t0 t1 ?_ (e := ⟨s, a⟩) ⟨a0, by show a ≤ 9; omega, hs⟩ (fun h => ?_)) fun r hr => .ret hr
  · rw [rd34_set h0 (by omega) t0]
    split
    · show l.length ≤ 5; omega
    · rename_i c; exact h5 (fun h => c h.symm)
  · apply hlt
    change (rd34 (ns.set id.toNat _) a).f0 = 2 at h
    rw [rd34_set h0 (by omega) a0] at h
    split at h
    · rename_i c; rw [c]; exact h
    · exact h
theorem ok84 (k : Nat) {R : Nat} (hk : R + 2000 < k) {ns : List S34} (I : Inv R ns) (x : S52) (hx : x.f2.length ≤ 1000) {id to : Int} (h0 : 0 ≤ id) (h1 : id < 10) (t0 : 0 ≤ to) (t1 : to < 10) (s o : ByteArray) (ho : o.size ≤ 4) :
    Okk (f84 k (ns, x, id, s, to, o)) (fun r => Inv (R + R + 1) r.2) := by
  have hl := I.len
  have II : Inv (R + R + 1) ns := I.mono (by omega)
  obtain ⟨ρ0, hb0, hr0⟩ := I.rk
  obtain ⟨m, rfl⟩ : ∃ m, k = m + 2 := ⟨k - 2, by omega⟩
  simp only [f84, start84]
  (repeat (refine Okk.chk (by omega) ?_))
  refine .cnd (fun _ => .ret II) fun _ => ?_
  (repeat (refine Okk.chk (by omega) ?_))
  refine .cnd (fun _ => .ret II) fun _ => ?_
  rw [run_succ]; simp only [step84]
  refine .bnd (ok88 (m + 2) (by omega) x hx ns hl id 3 h0 h1) fun r0 _ => .cnd (fun _ => .ret II) fun _ => ?_
  refine .bnd (ok88 (m + 2) (by omega) x hx ns hl to 3 t0 t1) fun r1 _ => .cnd (fun _ => .ret II) fun _ => ?_
  rw [run_succ]; simp only [step84]
  (repeat (refine Okk.chk (by omega) ?_))
  refine .bnd (ok71' (m + 2) (by omega) _ (I.at_ h0 h1) s) fun r2 hr2 => .cnd (fun _ => .ret II) fun c1 => ?_
  have := of_decide_eq_false c1
  obtain ⟨j0, j1⟩ : 0 ≤ r2 ∧ r2 < (((rd34 ns id).f8.length : Nat) : Int) := by
    rcases hr2 with h | h
    · omega
    · exact h
  (repeat (refine Okk.chk (by omega) ?_))
  refine .bnd (ok71' (m + 2) (by omega) _ (I.at_ t0 t1) o) fun r3 hr3 => .cnd (fun _ => .ret II) fun _ => ?_
  obtain ⟨a0, a1, _⟩ := (I.at_ h0 h1).e _ (mem47 j0 j1)
  generalize rd47 (rd34 ns id).f8 r2 = en at *
  (repeat (refine Okk.chk (by omega) ?_))
  have fin : ((rd34 ns en.f1).f0 = 2 → ¬ Rch ns en.f1 to) → Okk _ _ := fun hr => .cnd (b := (id : Int) != to)
    (x := (cond (decide ((0 : Int) ≤ to)) (cond (decide ((to : Int) < (((ns).length : Nat) : Int))) (cond (decide ((0 : Int) ≤ to)) (cond (decide ((to : Int) < (((ns).length : Nat) : Int))) (cond (decide (((((((rd34 ns to)).f8).length : Nat) : Int) : Int) ≥ 6)) (some (((), ((7 : Int), ())), ns)) (((f95 (m + 2) (ns, (id, r2)))).bind fun r9 => (((f93 (m + 2) ((r9).snd, (to, (⟨o, en.f1⟩ : S47))))).bind fun r10 => (some (((), ((0 : Int), ())), (r10).snd))))) none) none) none) none))
    (y := (((f95 (m + 2) (ns, (id, r2)))).bind fun r11 => (((f93 (m + 2) ((r11).snd, (to, (⟨o, en.f1⟩ : S47))))).bind fun r12 => (some (((), ((0 : Int), ())), (r12).snd))))) (Q := fun r => Inv (R + R + 1) r.2) (fun _ => by
      (repeat (refine Okk.chk (by omega) ?_))
      refine .cnd (fun _ => .ret II) fun c5 => ?_
      have := of_decide_eq_false c5
      exact mv_inv (m + 2) (by omega) I h0 h1 j0 j1 a0 (by omega) t0 t1 o ho hr (fun _ => by omega)) (fun c => by
      exact mv_inv (m + 2) (by omega) I h0 h1 j0 j1 a0 (by omega) t0 t1 o ho hr (fun h => absurd (by simpa using c) h))
  refine .cnd (fun c => ?_) (fun c => fin fun h => absurd h (by simpa using c))
  refine .bnd (ok96 ns hl I.nd hr0 to (R + 1) (m + 2) en.f1 (by have := hb0 en.f1; omega) (by omega) a0 (by omega)) fun b hb => .cnd (fun _ => .ret II) fun cb => fin fun _ => hb cb

/-! ### open, write -/
theorem ok85 (k : Nat) {R : Nat} {ns : List S34} (hk : 2000 < k) (I : Inv R ns) {id : Int} (h0 : 0 ≤ id) (h1 : id < 10) (b : Bool) : Okk (f85 k (ns, id, b)) (fun r => Inv R r.2) := by
  have hl := I.len
  have hd := I.at_ h0 h1
  obtain ⟨m, rfl⟩ : ∃ m, k = m + 1 := ⟨k - 1, by omega⟩
  have U : ∀ v : Int, Inv R (ns.set id.toNat ⟨(rd34 ns id).f0, (rd34 ns id).f1, (rd34 ns id).f2, (rd34 ns id).f3, (rd34 ns id).f4, v, (rd34 ns id).f6, (rd34 ns id).f7, (rd34 ns id).f8⟩) := fun v => I.upd h0 h1 ⟨hd.l, hd.t, hd.e⟩ (fun h => h) (fun e h => h)
  have fin : Okk (run (step85 (f94 (m + 1))) (m + 1) (J85.j4 id b (rd34 ns id).f5 ns)) (fun r => Inv R r.2) := by
    rw [run_succ]; simp only [step85]
    refine .cnd (fun _ => ?_) fun _ => ?_
    · (repeat (refine Okk.chk (by omega) ?_))
      exact .ret (U _)
    · (repeat (refine Okk.chk (by omega) ?_))
      exact .bnd (ok94 _ (U _) id h0 h1) fun r hr => .ret hr
  simp only [f85, start85]
  (repeat (refine Okk.chk (by omega) ?_))
  exact .cnd (fun _ => .cnd (fun _ => .ret I) fun _ => .cnd (fun _ => .cnd (fun _ => .ret I) fun _ => fin) fun _ => fin) fun _ => .cnd (fun _ => .cnd (fun _ => .ret I) fun _ => fin) fun _ => fin
theorem nums_size (l : List Int) : (Go.strOfNums l).size = l.length := by
  unfold Go.strOfNums
  show (Array.size _) = _
  simp
theorem ok86_loop {R : Nat} {ns : List S34} (I : Inv R ns) {id a : Int} (h0 : 0 ≤ id) (h1 : id < 10) (a0 : 0 ≤ a) (t : ByteArray) (ht : a + ((t.size : Nat) : Int) ≤ 40) : ∀ (d m : Nat) (s : ByteArray), a ≤ ((s.size : Nat) : Int) + d → s.size ≤ 40 → d < m → Okk (run step86 m (J86.j8 id a t s ns)) (fun r => Inv R r.2)
  | d, 0, s, _, _, h => by omega
  | d, m + 1, s, hs, h40, hm => by
    have hl := I.len
    have hd := I.at_ h0 h1
    rw [run_succ]; simp only [step86]
    refine .cnd (fun c => ?_) (fun c => ?_)
    · have c2 := of_decide_eq_true c
      have e1 : (s ++ Go.strOfNums (List.map (fun x => x) [0])).size = s.size + 1 := by rw [ByteArray.size_append, nums_size]; rfl
      refine .chk (by rw [nums_size]; simp; omega) ?_
      cases d with
      | zero => omega
      | succ d => exact ok86_loop I h0 h1 a0 t ht d m _ (by omega) (by omega) (by omega)
    · have c2 := of_decide_eq_false c
      rw [w64_id (n := a + ((t.size : Nat) : Int)) (by omega) (by omega)]
      obtain ⟨q, hq, q2⟩ : ∃ q : Int, (cond (decide (a + ((t.size : Nat) : Int) < ((s.size : Nat) : Int))) (a + ((t.size : Nat) : Int)) ((s.size : Nat) : Int)) = q ∧ ((q = a + ((t.size : Nat) : Int) ∧ a + ((t.size : Nat) : Int) < ((s.size : Nat) : Int)) ∨ (q = ((s.size : Nat) : Int) ∧ ((s.size : Nat) : Int) ≤ a + ((t.size : Nat) : Int))) := by
        by_cases c3 : a + ((t.size : Nat) : Int) < ((s.size : Nat) : Int)
        · exact ⟨_, by rw [decide_eq_true c3]; rfl, .inl ⟨rfl, c3⟩⟩
        · exact ⟨_, by rw [decide_eq_false c3]; rfl, .inr ⟨rfl, by omega⟩⟩
      have q0 : 0 ≤ q := by omega
      have q1 : q ≤ ((s.size : Nat) : Int) := by omega
      rw [hq]
      have z1 : (s.extract 0 a.toNat).size = a.toNat := by rw [ByteArray.size_extract]; omega
      have z2 : (s.extract q.toNat s.size).size = s.size - q.toNat := by rw [ByteArray.size_extract]; omega
      (repeat (refine Okk.chk (by omega) ?_))
      refine .chk (by rw [ByteArray.size_append, z1, z2]; omega) ?_
      (repeat (refine Okk.chk (by omega) ?_))
      refine .ret (I.upd h0 h1 ⟨hd.l, ?_, hd.e⟩ (fun h => h) (fun e h => h))
      show (_ ++ _ ++ _ : ByteArray).size ≤ 40
      rw [ByteArray.size_append, ByteArray.size_append, z1, z2]; omega
theorem ok86 (k : Nat) (hk : 2000 < k) {R : Nat} {ns : List S34} (I : Inv R ns) {id a : Int} (h0 : 0 ≤ id) (h1 : id < 10) (a0 : 0 ≤ a) (t : ByteArray) (ht : t.size ≤ 40) : Okk (f86 k (ns, id, a, t)) (fun r => Inv R r.2) := by
  have hl := I.len
  have hd := I.at_ h0 h1
  have := hd.t
  obtain ⟨m, rfl⟩ : ∃ m, k = m + 1 := ⟨k - 1, by omega⟩
  simp only [f86, start86]
  (repeat (refine Okk.chk (by omega) ?_))
  refine .cnd (fun _ => .ret I) fun _ => .cnd (fun _ => .ret I) fun c1 => .cnd (fun _ => .ret I) fun c2 => ?_
  have c1 := of_decide_eq_false c1
  have c2 := of_decide_eq_false c2
  rw [w64_id (n := a + ((t.size : Nat) : Int)) (by omega) (by omega)] at c2
  rw [run_succ]; simp only [step86]
  exact .cnd (fun _ => .ret I) fun _ => ok86_loop I h0 h1 a0 t (by omega) 40 m _ (by omega) hd.t (by omega)
end Go.Sx
