/- The plain law FnBytesSame, over what its functions compute: a part. No further condition. -/
import Derived.Test.YtecniihieninjaaSyPFnBytesSameb
set_option linter.unusedVariables false
set_option linter.unusedSimpArgs false
namespace Go.Sx
open Go.RowKit
set_option linter.unusedVariables false
set_option linter.unusedSimpArgs false

/-! ### what memory keeps -/
structure Inv (m : S89) (V : MV) : Prop where
  nt : V.rt.length = 12
  nr : V.rr.length = 12
  mt : V.st.length = 12
  mr : V.sr.length = 12
  np : V.ps.length = 5
  ls : V.sl.length = 5
  live : ∀ i, i < 5 → (V.p i).f0 = true → (V.s i).length = 16
  dead : ∀ i, i < 5 → (V.p i).f0 = false → V.s i = []
  al : ∀ i, i < 5 → (V.a i).length ≤ 6
  t1 : ∀ a : Nat, a < 12 → (cnt 1 a V.sl : Int) = rd3 V.rr a
  t2 : ∀ a : Nat, a < 12 → (cnt 2 a V.sl : Int) = rd3 V.sr a
  x1 : ∀ a : Nat, a < 12 → rd3 V.rr a ≠ 0 → (rd9 V.rt a).size = 4
  x2 : ∀ a : Nat, a < 12 → rd3 V.sr a ≠ 0 → (rd9 V.st a).size = 4
  rng : ∀ s ∈ V.sl, ∀ x ∈ s, x.f0 = 0 ∨ ((x.f0 = 1 ∨ x.f0 = 2) ∧ 0 ≤ x.f1 ∧ x.f1 < 12)
  hd : 0 ≤ m.f5 ∧ m.f5 < 12
section
variable {n : Nat} {m : S89} {V : MV}
theorem Inv.le (I : Inv m V) : ∀ i, i < 5 → (V.s i).length ≤ 16 := fun i hi => by
  cases h : (V.p i).f0 with
  | true => rw [I.live i hi h]; exact Nat.le_refl _
  | false => rw [I.dead i hi h]; simp
theorem cnt_le {k a : Int} {L : List (List S76)} (h : ∀ s ∈ L, s.length ≤ 16) : cnt k a L ≤ 16 * L.length := by
  induction L with
  | nil => simp [cnt]
  | cons s L ih =>
    have h1 := ih fun s hs => h s (by simp [hs])
    have h2 := h s (by simp)
    have h3 : cn k a s ≤ s.length := List.countP_le_length
    simp only [cnt, List.length_cons]; omega
theorem Inv.row (I : Inv m V) : ∀ s ∈ V.sl, s.length ≤ 16 := fun s hs => by
  obtain ⟨i, hi, rfl⟩ := List.mem_iff_getElem.1 hs
  have := I.le i (by rw [← I.ls]; exact hi)
  have e : V.s i = V.sl[i] := by simp [MV.s, hi]
  rw [← e]; exact this
theorem Inv.r1 (I : Inv m V) {a : Nat} (h : a < 12) : 0 ≤ rd3 V.rr a ∧ rd3 V.rr a ≤ 80 := by
  have h1 := I.t1 a h
  have h2 := cnt_le (k := 1) (a := a) I.row
  rw [I.ls] at h2
  omega
theorem Inv.r2 (I : Inv m V) {a : Nat} (h : a < 12) : 0 ≤ rd3 V.sr a ∧ rd3 V.sr a ≤ 80 := by
  have h1 := I.t2 a h
  have h2 := cnt_le (k := 2) (a := a) I.row
  rw [I.ls] at h2
  omega
theorem MV.mem_s {i j : Nat} (h : j < (V.s i).length) : ∃ s ∈ V.sl, rd116 (V.s i) (j : Int) ∈ s := by
  have hi : i < V.sl.length := by
    by_cases c : i < V.sl.length
    · exact c
    · have : V.s i = [] := by simp [MV.s, Nat.le_of_not_lt c]
      rw [this] at h; simp at h
  refine ⟨V.s i, ?_, ?_⟩
  · simp [MV.s, hi]
  · rw [rd116_at h]; exact List.getElem_mem h
theorem Inv.at_ (I : Inv m V) {i j : Nat} (h : j < (V.s i).length) : (rd116 (V.s i) (j : Int)).f0 = 0 ∨ (((rd116 (V.s i) (j : Int)).f0 = 1 ∨ (rd116 (V.s i) (j : Int)).f0 = 2) ∧ 0 ≤ (rd116 (V.s i) (j : Int)).f1 ∧ (rd116 (V.s i) (j : Int)).f1 < 12) := by
  obtain ⟨s, hs, hx⟩ := MV.mem_s h
  exact I.rng s hs _ hx
/-- A slot tells a place that is used. -/
theorem MV.told {i j : Nat} (h : j < (V.s i).length) {k a : Int} (ht : tel k a (rd116 (V.s i) (j : Int)) = true) : 1 ≤ cnt k a V.sl := by
  have hi : i < V.sl.length := by
    by_cases c : i < V.sl.length
    · exact c
    · have : V.s i = [] := by simp [MV.s, Nat.le_of_not_lt c]
      rw [this] at h; simp at h
  exact cnt_mem (i := i) hi (by rw [rd116_at h]; exact List.getElem_mem h) ht
theorem tel_iff {k a : Int} {x : S76} : tel k a x = true ↔ x.f0 = k ∧ x.f1 = a := by
  unfold tel
  simp [Bool.and_eq_true]
theorem Inv.u1 (I : Inv m V) {i j : Nat} (h : j < (V.s i).length) (h1 : (rd116 (V.s i) (j : Int)).f0 = 1) {a : Nat} (ha : a < 12) (h2 : (rd116 (V.s i) (j : Int)).f1 = a) : 1 ≤ rd3 V.rr a := by
  have := I.t1 a ha
  have h3 := MV.told h (tel_iff.2 ⟨h1, h2⟩)
  omega
theorem Inv.u2 (I : Inv m V) {i j : Nat} (h : j < (V.s i).length) (h1 : (rd116 (V.s i) (j : Int)).f0 = 2) {a : Nat} (ha : a < 12) (h2 : (rd116 (V.s i) (j : Int)).f1 = a) : 1 ≤ rd3 V.sr a := by
  have := I.t2 a ha
  have h3 := MV.told h (tel_iff.2 ⟨h1, h2⟩)
  omega
theorem MV.s_map (f : S76 → S76) (i : Nat) : ({ V with sl := V.sl.map (List.map f) } : MV).s i = (V.s i).map f := by
  unfold MV.s
  simp only [List.getD_eq_getElem?_getD, List.getElem?_map]
  cases V.sl[i]? <;> rfl
theorem Inv.calm (I : Inv m V) (a : Int) : Inv m { V with sl := V.sl.map (List.map (calmF a)) } where
  nt := I.nt
  nr := I.nr
  mt := I.mt
  mr := I.mr
  np := I.np
  ls := by simp only [List.length_map]; exact I.ls
  live := fun i hi h => by rw [MV.s_map, List.length_map]; exact I.live i hi h
  dead := fun i hi h => by rw [MV.s_map, I.dead i hi h]; rfl
  al := I.al
  t1 := fun b hb => by rw [cnt_map (fun x => calm_tel a 1 b x)]; exact I.t1 b hb
  t2 := fun b hb => by rw [cnt_map (fun x => calm_tel a 2 b x)]; exact I.t2 b hb
  x1 := I.x1
  x2 := I.x2
  rng := fun s hs x hx => by
    obtain ⟨s0, hs0, rfl⟩ := List.mem_map.1 hs
    obtain ⟨x0, hx0, rfl⟩ := List.mem_map.1 hx
    have := I.rng s0 hs0 x0 hx0
    unfold calmF
    cases tel 1 a x0 <;> exact this
  hd := I.hd
theorem Inv.hand (I : Inv m V) {x : Int} (h0 : 0 ≤ x) (h1 : x < 12) : Inv ⟨m.f0, m.f1, m.f2, m.f3, m.f4, x⟩ V := ⟨I.nt, I.nr, I.mt, I.mr, I.np, I.ls, I.live, I.dead, I.al, I.t1, I.t2, I.x1, I.x2, I.rng, h0, h1⟩

/-- Slots before and after room was found. -/
structure Rel (but : Int) (V V' : MV) : Prop where
  ps : V'.ps = V.ps
  al : V'.al = V.al
  len : ∀ i, (V'.s i).length = (V.s i).length
  els : ∀ i j : Nat, j < (V.s i).length → (rd116 (V.s i) (j : Int)).f0 ≠ 1 → rd116 (V'.s i) (j : Int) = rd116 (V.s i) (j : Int)
  but_ : ∀ i j : Nat, j < (V.s i).length → (rd116 (V.s i) (j : Int)).f0 = 1 → (rd116 (V.s i) (j : Int)).f1 = but → (rd116 (V'.s i) (j : Int)).f0 = 1 ∧ (rd116 (V'.s i) (j : Int)).f1 = but
theorem Rel.refl (but : Int) (V : MV) : Rel but V V := ⟨rfl, rfl, fun _ => rfl, fun _ _ _ _ => rfl, fun _ _ _ h1 h2 => ⟨h1, h2⟩⟩
theorem Rel.trans {but : Int} {V V' V'' : MV} (a : Rel but V V') (b : Rel but V' V'') : Rel but V V'' := ⟨b.ps.trans a.ps, b.al.trans a.al, fun i => (b.len i).trans (a.len i), fun i j hj h => by
  have h1 := a.els i j hj h
  rw [b.els i j (by rw [a.len]; exact hj) (by rw [h1]; exact h), h1], fun i j hj h1 h2 => by
  obtain ⟨h3, h4⟩ := a.but_ i j hj h1 h2
  exact b.but_ i j (by rw [a.len]; exact hj) h3 h4⟩
theorem rd116_map {f : S76 → S76} {s : List S76} {j : Nat} (h : j < s.length) : rd116 (s.map f) (j : Int) = f (rd116 s (j : Int)) := by
  rw [rd116_at (by simpa using h), rd116_at h, List.getElem_map]
theorem Rel.calm (but a : Int) (h : a ≠ but) (V : MV) : Rel but V { V with sl := V.sl.map (List.map (calmF a)) } := by
  have key : ∀ x : S76, tel 1 a x = false → calmF a x = x := fun x hx => by simp [calmF, hx]
  refine ⟨rfl, rfl, fun i => by rw [MV.s_map, List.length_map], fun i j hj h1 => ?_, fun i j hj h1 h2 => ?_⟩
  · rw [MV.s_map, rd116_map hj, key]
    cases c : tel 1 a (rd116 (V.s i) (j : Int))
    · rfl
    · exact absurd (tel_iff.1 c).1 h1
  · rw [MV.s_map, rd116_map hj]
    have := calm_tel a 1 but (rd116 (V.s i) (j : Int))
    rw [tel_iff.2 ⟨h1, h2⟩] at this
    exact tel_iff.1 this

/-- A frame's page goes to the swap. -/
def evict (V : MV) (h j : Nat) (z : ByteArray) : MV := ⟨V.rt.set h z, V.rr.set h 0, V.st.set j (rd9 V.rt h), V.sr.set j (rd3 V.rr h), V.ps, V.sl.map (List.map (turnF 1 h 2 j)), V.al⟩
theorem evict_s (h j : Nat) (z : ByteArray) (i : Nat) : (evict V h j z).s i = (V.s i).map (turnF 1 h 2 j) := MV.s_map _ i
theorem Inv.evict (I : Inv m V) {h j : Nat} (hh : h < 12) (hj : j < 12) (h0 : rd3 V.rr h ≠ 0) (j0 : rd3 V.sr j = 0) (z : ByteArray) : Inv m (evict V h j z) where
  nt := by simp only [Sx.evict, List.length_set]; exact I.nt
  nr := by simp only [Sx.evict, List.length_set]; exact I.nr
  mt := by simp only [Sx.evict, List.length_set]; exact I.mt
  mr := by simp only [Sx.evict, List.length_set]; exact I.mr
  np := I.np
  ls := by simp only [Sx.evict, List.length_map]; exact I.ls
  live := fun i hi h => by rw [evict_s, List.length_map]; exact I.live i hi h
  dead := fun i hi h => by rw [evict_s, I.dead i hi h]; rfl
  al := I.al
  t1 := fun b hb => by
    have e : rd3 (V.rr.set h 0) (b : Int) = if (b : Int) = (h : Int) then 0 else rd3 V.rr b := rd3_set (by rw [I.nr]; exact hh) (by omega)
    show ((cnt 1 b (V.sl.map (List.map (turnF 1 h 2 j))) : Nat) : Int) = rd3 (V.rr.set h 0) b
    rw [e]
    by_cases c : (b : Int) = (h : Int)
    · rw [if_pos c, c, cnt_zero]
      · rfl
      intro s hs x hx
      obtain ⟨s0, hs0, rfl⟩ := List.mem_map.1 hs
      obtain ⟨x0, hx0, rfl⟩ := List.mem_map.1 hx
      exact turn_from (by omega) x0
    · rw [if_neg c, cnt_map (fun x => turn_else (by omega) (by omega) x)]
      exact I.t1 b hb
  t2 := fun b hb => by
    have e : rd3 (V.sr.set j (rd3 V.rr h)) (b : Int) = if (b : Int) = (j : Int) then rd3 V.rr h else rd3 V.sr b := rd3_set (by rw [I.mr]; exact hj) (by omega)
    show ((cnt 2 b (V.sl.map (List.map (turnF 1 h 2 j))) : Nat) : Int) = rd3 (V.sr.set j (rd3 V.rr h)) b
    rw [e]
    by_cases c : (b : Int) = (j : Int)
    · rw [if_pos c, c, cnt_turn (by omega)]
      have h1 := I.t2 j hj
      have h2 := I.t1 h hh
      omega
    · rw [if_neg c, cnt_map (fun x => turn_else (by omega) (by omega) x)]
      exact I.t2 b hb
  x1 := fun b hb => by
    have e : rd3 (V.rr.set h 0) (b : Int) = if (b : Int) = (h : Int) then 0 else rd3 V.rr b := rd3_set (by rw [I.nr]; exact hh) (by omega)
    have e2 : rd9 (V.rt.set h z) (b : Int) = if (b : Int) = (h : Int) then z else rd9 V.rt b := rd9_set (by rw [I.nt]; exact hh) (by omega)
    show rd3 (V.rr.set h 0) b ≠ 0 → (rd9 (V.rt.set h z) b).size = 4
    rw [e, e2]
    by_cases c : (b : Int) = (h : Int)
    · rw [if_pos c]; intro h; exact absurd rfl h
    · rw [if_neg c, if_neg c]; exact I.x1 b hb
  x2 := fun b hb => by
    have e : rd3 (V.sr.set j (rd3 V.rr h)) (b : Int) = if (b : Int) = (j : Int) then rd3 V.rr h else rd3 V.sr b := rd3_set (by rw [I.mr]; exact hj) (by omega)
    have e2 : rd9 (V.st.set j (rd9 V.rt h)) (b : Int) = if (b : Int) = (j : Int) then rd9 V.rt h else rd9 V.st b := rd9_set (by rw [I.mt]; exact hj) (by omega)
    show rd3 (V.sr.set j (rd3 V.rr h)) b ≠ 0 → (rd9 (V.st.set j (rd9 V.rt h)) b).size = 4
    rw [e, e2]
    by_cases c : (b : Int) = (j : Int)
    · rw [if_pos c, if_pos c]; exact fun _ => I.x1 h hh h0
    · rw [if_neg c, if_neg c]; exact I.x2 b hb
  rng := fun s hs x hx => by
    obtain ⟨s0, hs0, rfl⟩ := List.mem_map.1 hs
    obtain ⟨x0, hx0, rfl⟩ := List.mem_map.1 hx
    have := I.rng s0 hs0 x0 hx0
    unfold turnF
    cases tel 1 h x0
    · exact this
    · exact .inr ⟨.inr rfl, by simp only [cond_true]; omega, by simp only [cond_true]; omega⟩
  hd := I.hd
theorem Rel.evict (but : Int) {h : Nat} (hb : (h : Int) ≠ but) (V : MV) (j : Nat) (z : ByteArray) : Rel but V (evict V h j z) := by
  refine ⟨rfl, rfl, fun i => by rw [evict_s, List.length_map], fun i b hj h1 => ?_, fun i b hj h1 h2 => ?_⟩
  · rw [evict_s, rd116_map hj, tel_false]
    cases c : tel 1 h (rd116 (V.s i) (b : Int))
    · rfl
    · exact absurd (tel_iff.1 c).1 h1
  · rw [evict_s, rd116_map hj, tel_false]
    · exact ⟨h1, h2⟩
    cases c : tel 1 h (rd116 (V.s i) (b : Int))
    · rfl
    · exact absurd ((tel_iff.1 c).2.symm.trans h2) hb
theorem room12 {h : Int} (h0 : 0 ≤ h) (h1 : h < 12) : 0 ≤ Int.tmod (w64 (h + 1)) 12 ∧ Int.tmod (w64 (h + 1)) 12 < 12 ∧ Int.tmod (w64 (h + 1)) 12 ≠ h := by
  rw [w64_id (by omega) (by omega), Int.tmod_eq_emod_of_nonneg (by omega)]
  omega

/-- l3Room. -/
theorem ok109 (K : Nat) (hK : 1000 < K) (but : Int) (f0 f1 f2 f3 f4 : Nat) : ∀ (μ k : Nat) (cs : H) (V : MV) (h : Int), 2 * usC V.sl + b2 (h == but) < μ → μ ≤ k → Rep n cs ⟨f0, f1, f2, f3, f4, h⟩ V → Inv ⟨f0, f1, f2, f3, f4, h⟩ V → (∀ a : Nat, a < 12 → rd3 V.rr a ≠ 0) → (∃ a : Nat, a < 12 ∧ rd3 V.sr a = 0) →
    Okk (run (step109 (f110 K) (f112 K) (f116 K) (f117 K)) k (J109.j5 but cs f0 f1 f2 f3 f4 h 0)) (fun r => Fr_ n cs r.2 ∧ r.1.2 = true ∧ ∃ V' h', r.1.1 = ⟨f0, f1, f2, f3, f4, h'⟩ ∧ Rep n r.2 r.1.1 V' ∧ Inv r.1.1 V' ∧ Rel but V V' ∧ ∃ a : Nat, a < 12 ∧ rd3 V'.rr a = 0)
  | 0, k, cs, V, h, hu, hk, R, I, hr, hs => by omega
  | μ + 1, k, cs, V, h, hu, hk, R, I, hr, hs => by
    obtain ⟨k, rfl⟩ : ∃ j, k = j + 1 := ⟨k - 1, by omega⟩
    obtain ⟨g0, g1⟩ := I.hd
    simp only at g0 g1
    obtain ⟨q0, q1, q2⟩ := room12 g0 g1
    rw [run_succ]; simp only [step109]
    refine .cnd (fun c => ?_) fun c => ?_
    · have c' : h = but := by simpa using c
      have e1 : b2 (h == but) = 1 := by rw [c]; rfl
      have e2 : b2 (Int.tmod (w64 (h + 1)) 12 == but) = 0 := by
        rw [← c', beq_eq_false_iff_ne.2 q2]; rfl
      exact ok109 K hK but f0 f1 f2 f3 f4 μ k cs V _ (by omega) (by omega) (R.hand _) (I.hand q0 q1) hr hs
    · have c' : h ≠ but := by simpa using c
      have R0 := R.hand (Int.tmod (w64 (h + 1)) 12)
      have I0 := I.hand q0 q1
      refine .bnd (ok117' K hK R0 I.np (fun i hi => I.le i hi) h) fun r2 h2 => ?_
      obtain ⟨⟨m2, was⟩, cs2⟩ := r2
      obtain ⟨f2_, e2, R2, u2⟩ := h2
      simp only at e2 f2_ R2 u2 ⊢
      subst e2
      have I2 := I0.calm h
      have L2 := Rel.calm but h c' V
      refine .cnd (fun cw => ?_) fun cw => ?_
      · rw [cw] at u2
        have u3 : b2 true = 1 := rfl
        have u4 : ∀ b, b2 b ≤ 1 := fun b => by cases b <;> decide
        have := u4 (Int.tmod (w64 (h + 1)) 12 == but)
        refine (ok109 K hK but f0 f1 f2 f3 f4 μ k cs2 _ _ (by simp only; omega) (by omega) R2 I2 hr hs).mono fun r hh => ?_
        obtain ⟨k1, k2, V', h', k3, k4, k5, k6, k7⟩ := hh
        exact ⟨f2_.trans k1, k2, V', h', k3, k4, k5, L2.trans k6, k7⟩
      · obtain ⟨a, rfl⟩ : ∃ a : Nat, h = a := ⟨h.toNat, by omega⟩
        have ha : a < 12 := by omega
        have e1 : decide ((a : Int) < ((V.rr.length : Nat) : Int)) = true := decide_eq_true (by rw [I.nr]; omega)
        have e3 : decide ((a : Int) < ((V.rt.length : Nat) : Int)) = true := decide_eq_true (by rw [I.nt]; omega)
        have e0 : decide ((0 : Int) ≤ (a : Int)) = true := decide_eq_true (by omega)
        have rr2 := R2.rr
        have rt2 := R2.rt
        simp only at rr2 rt2
        simp only [rr2.okA, rr2.rdc, rt2.okA, rt2.rdc, e0, e1, e3, cond_true]
        refine .bnd (ok110' K (by omega) (rd9 V.rt (a : Int)) (p := ⟨f2, f3⟩) R2.st R2.sr I.mt I.mr) fun r3 h3 => ?_
        obtain ⟨⟨p3, j⟩, cs3⟩ := r3
        obtain ⟨ep, h3⟩ := h3
        simp only at ep h3 ⊢
        subst ep
        rcases h3 with ⟨_, _, h3⟩ | ⟨j, hj, j0, rfl, rfl⟩
        · obtain ⟨b, b1, b2⟩ := hs
          exact absurd b2 (h3 b b1)
        have R3 := (R2.setSR (V.sr.set j 1)).setST (V.st.set j (rd9 V.rt (a : Int)))
        have g3_ := (R2.frSR (Cell.arr (T := TT) 3 (V.sr.set j 1))).trans ((R2.setSR (V.sr.set j 1)).frST (Cell.arr (T := TT) 9 (V.st.set j (rd9 V.rt (a : Int)))))
        have sr3 := R3.sr
        simp only at sr3 R3 g3_
        have e5 : decide ((j : Int) < (((V.sr.set j 1).length : Nat) : Int)) = true := decide_eq_true (by rw [List.length_set, I.mr]; omega)
        have e6 : decide ((0 : Int) ≤ (j : Int)) = true := decide_eq_true (by omega)
        simp only [setc2, sr3.okA, sr3.rdc, e5, e6, cond_true, Int.toNat_natCast]
        have R4 := R3.setSR ((V.sr.set j 1).set j (rd3 V.rr (a : Int)))
        have g4_ := R3.frSR (Cell.arr (T := TT) 3 ((V.sr.set j 1).set j (rd3 V.rr (a : Int))))
        simp only at R4 g4_
        refine .bnd (ok112' K hK R4 I.np (fun i hi => by show (MV.s _ i).length ≤ 16; exact I2.le i hi) 1 (a : Int) 2 (j : Int)) fun r4 h4 => ?_
        obtain ⟨m4, cs4⟩ := r4
        obtain ⟨g5_, e4, R5⟩ := h4
        simp only at g5_ e4 R5 ⊢
        subst e4
        have rr5 := R5.rr
        simp only at rr5
        have R6 := R5.setRR (V.rr.set a 0)
        have g6_ := R5.frRR (Cell.arr (T := TT) 3 (V.rr.set a 0))
        simp only at R6 g6_
        have rt6 := R6.rt
        simp only at rt6
        simp only [setc2, rr5.okA, rr5.rdc, e0, e1, cond_true, Int.toNat_natCast, rt6.okA, rt6.rdc, e3]
        have R7 := R6.setRT (V.rt.set a (⟨#[]⟩ : ByteArray))
        have g7_ := R6.frRT (Cell.arr (T := TT) 9 (V.rt.set a (⟨#[]⟩ : ByteArray)))
        simp only at R7 g7_
        have hV : ({ V with rt := V.rt.set a (⟨#[]⟩ : ByteArray), rr := V.rr.set a 0, st := V.st.set j (rd9 V.rt (a : Int)), sr := (V.sr.set j 1).set j (rd3 V.rr (a : Int)), sl := (V.sl.map (List.map (calmF (a : Int)))).map (List.map (turnF 1 (a : Int) 2 (j : Int))) } : MV) = evict { V with sl := V.sl.map (List.map (calmF (a : Int))) } a j (⟨#[]⟩ : ByteArray) := by
          unfold evict
          simp only [List.set_set]
        rw [hV] at R7
        refine .ret ⟨((((f2_.trans g3_).trans g4_).trans g5_).trans g6_).trans g7_, rfl, _, _, rfl, R7, I2.evict ha hj (hr a ha) j0 _, L2.trans (Rel.evict but c' _ j _), a, ha, ?_⟩
        show rd3 (V.rr.set a 0) (a : Int) = 0
        rw [rd3_set (by rw [I.nr]; exact ha) (by omega), if_pos rfl]
theorem usC_le {L : List (List S76)} (h : ∀ s ∈ L, s.length ≤ 16) : usC L ≤ 16 * L.length := by
  induction L with
  | nil => simp [usC]
  | cons s L ih =>
    have h1 := ih fun s hs => h s (by simp [hs])
    have h2 := h s (by simp)
    have h3 : usd s ≤ s.length := List.countP_le_length
    simp only [usC, List.length_cons]; omega
theorem ok109' (k : Nat) (hk : 1000 < k) {cs : H} (R : Rep n cs m V) (I : Inv m V) (but : Int) :
    Okk (f109 k (cs, m, but)) (fun r => Fr_ n cs r.2 ∧ (r.1.2 = true → ∃ V' h', r.1.1 = ⟨m.f0, m.f1, m.f2, m.f3, m.f4, h'⟩ ∧ Rep n r.2 r.1.1 V' ∧ Inv r.1.1 V' ∧ Rel but V V' ∧ ∃ a : Nat, a < 12 ∧ rd3 V'.rr a = 0)) := by
  unfold f109 start109
  refine .bnd (ok116' k (by omega) (p := ⟨m.f0, m.f1⟩) R.rr I.nr) fun r0 h0 => ?_
  obtain ⟨c0, cs0⟩ := r0
  obtain ⟨e, p1, p2, p3⟩ := h0
  simp only at e p1 p2 p3 ⊢
  subst e
  refine .cnd (fun c => .ret ⟨.refl _ _, fun _ => ⟨V, m.f5, rfl, R, I, .refl _ _, p2 (by simpa using c)⟩⟩) fun c => ?_
  have c : ¬ (0 < c0) := by simpa using c
  refine .bnd (ok116' k (by omega) (p := ⟨m.f2, m.f3⟩) R.sr I.mr) fun r1 h1 => ?_
  obtain ⟨c1, cs1⟩ := r1
  obtain ⟨e, s1, s2, s3⟩ := h1
  simp only at e s1 s2 s3 ⊢
  subst e
  refine .cnd (fun c => .ret ⟨.refl _ _, fun h => by cases h⟩) fun c2 => ?_
  have c2 : c1 ≠ 0 := by simpa using c2
  have hu := usC_le I.row
  rw [I.ls] at hu
  have u4 : b2 (m.f5 == but) ≤ 1 := by cases (m.f5 == but) <;> decide
  exact (ok109 k hk but m.f0 m.f1 m.f2 m.f3 m.f4 200 k cs1 V m.f5 (by omega) (by omega) R I (p3 (by omega)) (s2 (by omega))).mono fun r hr => ⟨hr.1, fun _ => hr.2.2⟩
end
end Go.Sx
namespace Go.Sx
open Go.RowKit
set_option linter.unusedVariables false
set_option linter.unusedSimpArgs false
section
variable {n : Nat} {m : S89} {V : MV}
/-- A swapped page comes to a frame. -/
def fetch (V : MV) (h j : Nat) (z : ByteArray) : MV := ⟨V.rt.set j (rd9 V.st h), V.rr.set j (rd3 V.sr h), V.st.set h z, V.sr.set h 0, V.ps, V.sl.map (List.map (turnF 2 h 1 j)), V.al⟩
theorem fetch_s (h j : Nat) (z : ByteArray) (i : Nat) : (fetch V h j z).s i = (V.s i).map (turnF 2 h 1 j) := MV.s_map _ i
theorem Inv.fetch (I : Inv m V) {h j : Nat} (hh : h < 12) (hj : j < 12) (h0 : rd3 V.sr h ≠ 0) (j0 : rd3 V.rr j = 0) (z : ByteArray) : Inv m (fetch V h j z) where
  mt := by simp only [Sx.fetch, List.length_set]; exact I.mt
  mr := by simp only [Sx.fetch, List.length_set]; exact I.mr
  nt := by simp only [Sx.fetch, List.length_set]; exact I.nt
  nr := by simp only [Sx.fetch, List.length_set]; exact I.nr
  np := I.np
  ls := by simp only [Sx.fetch, List.length_map]; exact I.ls
  live := fun i hi h => by rw [fetch_s, List.length_map]; exact I.live i hi h
  dead := fun i hi h => by rw [fetch_s, I.dead i hi h]; rfl
  al := I.al
  t2 := fun b hb => by
    have e : rd3 (V.sr.set h 0) (b : Int) = if (b : Int) = (h : Int) then 0 else rd3 V.sr b := rd3_set (by rw [I.mr]; exact hh) (by omega)
    show ((cnt 2 b (V.sl.map (List.map (turnF 2 h 1 j))) : Nat) : Int) = rd3 (V.sr.set h 0) b
    rw [e]
    by_cases c : (b : Int) = (h : Int)
    · rw [if_pos c, c, cnt_zero]
      · rfl
      intro s hs x hx
      obtain ⟨s0, hs0, rfl⟩ := List.mem_map.1 hs
      obtain ⟨x0, hx0, rfl⟩ := List.mem_map.1 hx
      exact turn_from (by omega) x0
    · rw [if_neg c, cnt_map (fun x => turn_else (by omega) (by omega) x)]
      exact I.t2 b hb
  t1 := fun b hb => by
    have e : rd3 (V.rr.set j (rd3 V.sr h)) (b : Int) = if (b : Int) = (j : Int) then rd3 V.sr h else rd3 V.rr b := rd3_set (by rw [I.nr]; exact hj) (by omega)
    show ((cnt 1 b (V.sl.map (List.map (turnF 2 h 1 j))) : Nat) : Int) = rd3 (V.rr.set j (rd3 V.sr h)) b
    rw [e]
    by_cases c : (b : Int) = (j : Int)
    · rw [if_pos c, c, cnt_turn (by omega)]
      have h1 := I.t1 j hj
      have h2 := I.t2 h hh
      omega
    · rw [if_neg c, cnt_map (fun x => turn_else (by omega) (by omega) x)]
      exact I.t1 b hb
  x2 := fun b hb => by
    have e : rd3 (V.sr.set h 0) (b : Int) = if (b : Int) = (h : Int) then 0 else rd3 V.sr b := rd3_set (by rw [I.mr]; exact hh) (by omega)
    have e2 : rd9 (V.st.set h z) (b : Int) = if (b : Int) = (h : Int) then z else rd9 V.st b := rd9_set (by rw [I.mt]; exact hh) (by omega)
    show rd3 (V.sr.set h 0) b ≠ 0 → (rd9 (V.st.set h z) b).size = 4
    rw [e, e2]
    by_cases c : (b : Int) = (h : Int)
    · rw [if_pos c]; intro h; exact absurd rfl h
    · rw [if_neg c, if_neg c]; exact I.x2 b hb
  x1 := fun b hb => by
    have e : rd3 (V.rr.set j (rd3 V.sr h)) (b : Int) = if (b : Int) = (j : Int) then rd3 V.sr h else rd3 V.rr b := rd3_set (by rw [I.nr]; exact hj) (by omega)
    have e2 : rd9 (V.rt.set j (rd9 V.st h)) (b : Int) = if (b : Int) = (j : Int) then rd9 V.st h else rd9 V.rt b := rd9_set (by rw [I.nt]; exact hj) (by omega)
    show rd3 (V.rr.set j (rd3 V.sr h)) b ≠ 0 → (rd9 (V.rt.set j (rd9 V.st h)) b).size = 4
    rw [e, e2]
    by_cases c : (b : Int) = (j : Int)
    · rw [if_pos c, if_pos c]; exact fun _ => I.x2 h hh h0
    · rw [if_neg c, if_neg c]; exact I.x1 b hb
  rng := fun s hs x hx => by
    obtain ⟨s0, hs0, rfl⟩ := List.mem_map.1 hs
    obtain ⟨x0, hx0, rfl⟩ := List.mem_map.1 hx
    have := I.rng s0 hs0 x0 hx0
    unfold turnF
    cases tel 2 h x0
    · exact this
    · exact .inr ⟨.inl rfl, by simp only [cond_true]; omega, by simp only [cond_true]; omega⟩
  hd := I.hd
theorem Rep.so {cs : H} (R : Rep n cs m V) {i : Nat} (hi : i < V.ps.length) : okA 116 cs (rd114 V.ps (i : Int)).f2 = true ∧ rdc 116 cs (rd114 V.ps (i : Int)).f2 = V.s i := ⟨(R.sl i hi).okA, (R.sl i hi).rdc⟩

theorem put_s {V : MV} {i j : Nat} {y : S76} (hi : i < V.sl.length) (rt : List ByteArray) (rr : List Int) (st : List ByteArray) (sr : List Int) (i' : Nat) : (⟨rt, rr, st, sr, V.ps, V.sl.set i ((V.s i).set j y), V.al⟩ : MV).s i' = if i' = i then (V.s i).set j y else V.s i' := getD_set hi
/-- A slot is set, and the counts with it. -/
theorem Inv.put (I : Inv m V) {i j : Nat} (hi : i < 5) (hj : j < (V.s i).length) (y : S76) {rt : List ByteArray} {rr : List Int} {st : List ByteArray} {sr : List Int} (l1 : rt.length = 12) (l2 : rr.length = 12) (l3 : st.length = 12) (l4 : sr.length = 12)
    (h1 : ∀ a : Nat, a < 12 → (cnt 1 a V.sl : Int) + b2 (tel 1 a y) = rd3 rr a + b2 (tel 1 a (rd116 (V.s i) (j : Int)))) (h2 : ∀ a : Nat, a < 12 → (cnt 2 a V.sl : Int) + b2 (tel 2 a y) = rd3 sr a + b2 (tel 2 a (rd116 (V.s i) (j : Int))))
    (x1 : ∀ a : Nat, a < 12 → rd3 rr a ≠ 0 → (rd9 rt a).size = 4) (x2 : ∀ a : Nat, a < 12 → rd3 sr a ≠ 0 → (rd9 st a).size = 4) (hy : y.f0 = 0 ∨ ((y.f0 = 1 ∨ y.f0 = 2) ∧ 0 ≤ y.f1 ∧ y.f1 < 12)) :
    Inv m ⟨rt, rr, st, sr, V.ps, V.sl.set i ((V.s i).set j y), V.al⟩ where
  nt := l1
  nr := l2
  mt := l3
  mr := l4
  np := I.np
  ls := by simp only [List.length_set]; exact I.ls
  live := fun a ha h => by
    rw [put_s (by rw [I.ls]; exact hi)]
    split
    · rename_i c; rw [List.length_set, ← c]; exact I.live a ha h
    · exact I.live a ha h
  dead := fun a ha h => by
    rw [put_s (by rw [I.ls]; exact hi)]
    split
    · rename_i c
      have := I.dead a ha h
      rw [← c, this]; simp
    · exact I.dead a ha h
  al := I.al
  t1 := fun a ha => by
    have := cnt_slot V 1 a (by rw [I.ls]; exact hi) hj y
    have := h1 a ha
    show ((cnt 1 a (V.sl.set i ((V.s i).set j y)) : Nat) : Int) = rd3 rr a
    omega
  t2 := fun a ha => by
    have := cnt_slot V 2 a (by rw [I.ls]; exact hi) hj y
    have := h2 a ha
    show ((cnt 2 a (V.sl.set i ((V.s i).set j y)) : Nat) : Int) = rd3 sr a
    omega
  x1 := x1
  x2 := x2
  rng := fun s hs x hx => by
    rcases List.mem_or_eq_of_mem_set hs with h | rfl
    · exact I.rng s h x hx
    · rcases List.mem_or_eq_of_mem_set hx with h | rfl
      · have hl : i < V.sl.length := by rw [I.ls]; exact hi
        exact I.rng (V.s i) (by simp [MV.s, hl]) x h
      · exact hy
  hd := I.hd
theorem Inv.same (I : Inv m V) {i j : Nat} (hi : i < 5) (hj : j < (V.s i).length) (y : S76) (e0 : y.f0 = (rd116 (V.s i) (j : Int)).f0) (e1 : y.f1 = (rd116 (V.s i) (j : Int)).f1) : Inv m { V with sl := V.sl.set i ((V.s i).set j y) } :=
  I.put hi hj y I.nt I.nr I.mt I.mr (fun a ha => by rw [I.t1 a ha]; unfold tel; rw [e0, e1]) (fun a ha => by rw [I.t2 a ha]; unfold tel; rw [e0, e1]) I.x1 I.x2 (by rw [e0, e1]; exact I.at_ hj)
theorem tel_ne {k a : Int} {x : S76} (h : ¬ (x.f0 = k ∧ x.f1 = a)) : tel k a x = false := by
  cases c : tel k a x
  · rfl
  · exact absurd (tel_iff.1 c) h
theorem b2f : b2 false = 0 := rfl
theorem b2t : b2 true = 1 := rfl
/-- A slot without a place gets frame a, that is free. -/
theorem Inv.take (I : Inv m V) {i j : Nat} (hi : i < 5) (hj : j < (V.s i).length) (h0 : (rd116 (V.s i) (j : Int)).f0 = 0) {a : Nat} (ha : a < 12) (hr : rd3 V.rr a = 0) {z : ByteArray} (hz : z.size = 4) (o u : Bool) :
    Inv m ⟨V.rt.set a z, V.rr.set a 1, V.st, V.sr, V.ps, V.sl.set i ((V.s i).set j ⟨1, a, o, u⟩), V.al⟩ := by
  have er : ∀ b : Nat, rd3 (V.rr.set a 1) (b : Int) = if (b : Int) = (a : Int) then 1 else rd3 V.rr b := fun b => rd3_set (by rw [I.nr]; exact ha) (by omega)
  have et : ∀ b : Nat, rd9 (V.rt.set a z) (b : Int) = if (b : Int) = (a : Int) then z else rd9 V.rt b := fun b => rd9_set (by rw [I.nt]; exact ha) (by omega)
  refine I.put hi hj _ (by rw [List.length_set]; exact I.nt) (by rw [List.length_set]; exact I.nr) I.mt I.mr (fun b hb => ?_) (fun b hb => ?_) (fun b hb => ?_) I.x2 (.inr ⟨.inl rfl, by simp only; omega, by simp only; omega⟩)
  · rw [er, I.t1 b hb, tel_ne (x := rd116 (V.s i) (j : Int)) (by omega), b2f]
    by_cases c : (b : Int) = (a : Int)
    · have tt : tel 1 a (⟨1, a, o, u⟩ : S76) = true := tel_iff.2 ⟨rfl, rfl⟩
      rw [if_pos c, c, hr, tt, b2t]; omega
    · rw [if_neg c, tel_ne (by simp only; omega), b2f]
  · rw [I.t2 b hb, tel_ne (x := rd116 (V.s i) (j : Int)) (by omega), tel_ne (by simp only; omega)]
  · rw [er, et]
    by_cases c : (b : Int) = (a : Int)
    · rw [if_pos c, if_pos c]; exact fun _ => hz
    · rw [if_neg c, if_neg c]; exact I.x1 b hb

/-- Where a page is, when it was brought in. -/
structure Brt (m : S89) (V : MV) (i j : Nat) (m' : S89) (V' : MV) : Prop where
  eq : ∃ h', m' = ⟨m.f0, m.f1, m.f2, m.f3, m.f4, h'⟩
  ps : V'.ps = V.ps
  al : V'.al = V.al
  len : ∀ a, (V'.s a).length = (V.s a).length
  fr : (rd116 (V'.s i) (j : Int)).f0 = 1
theorem put_len {V : MV} {i j : Nat} {y : S76} (hi : i < V.sl.length) (rt : List ByteArray) (rr : List Int) (st : List ByteArray) (sr : List Int) (a : Nat) : ((⟨rt, rr, st, sr, V.ps, V.sl.set i ((V.s i).set j y), V.al⟩ : MV).s a).length = (V.s a).length := by
  rw [put_s hi]
  split
  · rename_i c; rw [List.length_set, c]
  · rfl

/-- l3Bring. -/
theorem ok95 (k : Nat) (hk : 1000 < k) {cs : H} (R : Rep n cs m V) (I : Inv m V) {i j : Nat} (hi : i < 5) (hj : j < (V.s i).length) :
    Okk (f95 k (cs, m, (i : Int), (j : Int))) (fun r => Fr_ n cs r.2 ∧ (r.1.2 = true → ∃ V', Rep n r.2 r.1.1 V' ∧ Inv r.1.1 V' ∧ Brt m V i j r.1.1 V')) := by
  have hi' : i < V.ps.length := by rw [I.np]; exact hi
  have e0 : decide ((0 : Int) ≤ (i : Int)) = true := decide_eq_true (by omega)
  have e1 : decide ((i : Int) < ((V.ps.length : Nat) : Int)) = true := decide_eq_true (by omega)
  have e2 : decide ((0 : Int) ≤ (j : Int)) = true := decide_eq_true (by omega)
  have e3 : decide ((j : Int) < (((V.s i).length : Nat) : Int)) = true := decide_eq_true (by omega)
  obtain ⟨o0, o1⟩ := R.so hi'
  -- the flag at the end
  have last : ∀ (cs2 : H) (m2 : S89) (V2 : MV), Rep n cs2 m2 V2 → Inv m2 V2 → V2.ps = V.ps → V2.al = V.al → (∀ a, (V2.s a).length = (V.s a).length) → (∃ h', m2 = ⟨m.f0, m.f1, m.f2, m.f3, m.f4, h'⟩) → (rd116 (V2.s i) (j : Int)).f0 = 1 →
      ∃ V', Rep n (setc cs2 (rd114 V.ps (i : Int)).f2 (.arr 116 ((V2.s i).set j ⟨(rd116 (V2.s i) (j : Int)).f0, (rd116 (V2.s i) (j : Int)).f1, (rd116 (V2.s i) (j : Int)).f2, true⟩))) m2 V' ∧ Inv m2 V' ∧ Brt m V i j m2 V' := by
    intro cs2 m2 V2 R2 I2 h1 h2 h3 h4 h5
    have hi2 : i < V2.ps.length := by rw [I2.np]; exact hi
    have hj2 : j < (V2.s i).length := by rw [h3]; exact hj
    have R3 := R2.setSl hi2 (R2.hd hi2 (by omega)) ((V2.s i).set j ⟨(rd116 (V2.s i) (j : Int)).f0, (rd116 (V2.s i) (j : Int)).f1, (rd116 (V2.s i) (j : Int)).f2, true⟩)
    have hp : (V2.p i).f2 = (rd114 V.ps (i : Int)).f2 := by unfold MV.p; rw [h1]
    rw [hp] at R3
    refine ⟨_, R3, I2.same hi hj2 _ rfl rfl, h4, h1, h2, fun a => ?_, ?_⟩
    · rw [← h3 a]; exact put_len (by rw [I2.ls]; exact hi) _ _ _ _ a
    · rw [MV.s_set (by rw [I2.ls]; exact hi), if_pos rfl, rd116_set hj2 (by omega), if_pos rfl]; exact h5
  unfold f95 start95
  simp only [R.ps.okA, R.ps.rdc, o0, o1, e0, e1, e2, e3, cond_true]
  refine .cnd (fun c => ?_) fun c => ?_
  · have c : (rd116 (V.s i) (j : Int)).f0 ≠ 1 := by simpa using c
    refine .bnd (ok109' k hk R I (-1)) fun r0 h0 => ?_
    obtain ⟨⟨m0, b0⟩, cs0⟩ := r0
    obtain ⟨f0_, h0⟩ := h0
    simp only at f0_ h0 ⊢
    refine .cnd (fun _ => .ret ⟨f0_, fun h => by cases h⟩) fun cb => ?_
    obtain ⟨V0, h', em, R0, I0, L0, a0, ha0, ra0⟩ := h0 (by simpa using cb)
    subst em
    have hi0 : i < V0.ps.length := by rw [I0.np]; exact hi
    have hj0 : j < (V0.s i).length := by rw [L0.len]; exact hj
    have eS := L0.els i j hj c
    have eP : V0.ps = V.ps := L0.ps
    refine .cnd (fun cz => ?_) fun cz => ?_
    · have cz : (rd116 (V.s i) (j : Int)).f0 = 0 := by simpa using cz
      refine .bnd (ok111 k) fun z hz => ?_
      refine .bnd (ok110' k (by omega) z (p := ⟨m.f0, m.f1⟩) R0.rt R0.rr I0.nt I0.nr) fun r2 h2 => ?_
      obtain ⟨⟨p2, a⟩, cs2⟩ := r2
      obtain ⟨ep, h2⟩ := h2
      simp only at ep h2 ⊢
      subst ep
      rcases h2 with ⟨_, _, h2⟩ | ⟨a, ha, ra, rfl, rfl⟩
      · exact absurd ra0 (h2 a0 ha0)
      have R1 := (R0.setRR (V0.rr.set a 1)).setRT (V0.rt.set a z)
      have f1_ := (R0.frRR (Cell.arr (T := TT) 3 (V0.rr.set a 1))).trans ((R0.setRR (V0.rr.set a 1)).frRT (Cell.arr (T := TT) 9 (V0.rt.set a z)))
      simp only at R1 f1_
      have ps1 := R1.ps
      obtain ⟨q0, q1⟩ := R1.so (i := i) hi0
      have e4 : decide ((i : Int) < ((V0.ps.length : Nat) : Int)) = true := decide_eq_true (by omega)
      have q1' : rdc 116 (setc (setc cs0 m.f1 (Cell.arr (T := TT) 3 (V0.rr.set a 1))) m.f0 (Cell.arr (T := TT) 9 (V0.rt.set a z))) (rd114 V0.ps (i : Int)).f2 = V0.s i := q1
      have e5 : decide ((j : Int) < (((V0.s i).length : Nat) : Int)) = true := decide_eq_true (by omega)
      simp only at ps1 q0
      have R2 := R1.setSl hi0 (R1.hd hi0 (by show 0 < (V0.s i).length; omega)) ((V0.s i).set j ⟨1, (a : Int), true, false⟩)
      have f2_ := R1.frSl hi0 (by show 0 < (V0.s i).length; omega) (Cell.arr (T := TT) 116 ((V0.s i).set j ⟨1, (a : Int), true, false⟩))
      have I2 := I0.take hi hj0 (by rw [eS]; exact cz) ha ra hz true false
      have ps2 := R2.ps
      obtain ⟨t0, t1⟩ := R2.so (i := i) hi0
      simp only at ps2 t0 R2 f2_
      have sE : ({ V0 with rr := V0.rr.set a 1, rt := V0.rt.set a z, sl := V0.sl.set i ((V0.s i).set j ⟨1, (a : Int), true, false⟩) } : MV).s i = (V0.s i).set j ⟨1, (a : Int), true, false⟩ := by
        rw [put_s (by rw [I0.ls]; exact hi), if_pos rfl]
      have t1' : rdc 116 (setc (setc (setc cs0 m.f1 (Cell.arr (T := TT) 3 (V0.rr.set a 1))) m.f0 (Cell.arr (T := TT) 9 (V0.rt.set a z))) (rd114 V0.ps (i : Int)).f2 (Cell.arr (T := TT) 116 ((V0.s i).set j ⟨1, (a : Int), true, false⟩))) (rd114 V0.ps (i : Int)).f2 = (V0.s i).set j ⟨1, (a : Int), true, false⟩ := t1.trans sE
      have t0' : okA 116 (setc (setc (setc cs0 m.f1 (Cell.arr (T := TT) 3 (V0.rr.set a 1))) m.f0 (Cell.arr (T := TT) 9 (V0.rt.set a z))) (rd114 V0.ps (i : Int)).f2 (Cell.arr (T := TT) 116 ((V0.s i).set j ⟨1, (a : Int), true, false⟩))) (rd114 V0.ps (i : Int)).f2 = true := t0
      have ps2A : okA 114 (setc (setc (setc cs0 m.f1 (Cell.arr (T := TT) 3 (V0.rr.set a 1))) m.f0 (Cell.arr (T := TT) 9 (V0.rt.set a z))) (rd114 V0.ps (i : Int)).f2 (Cell.arr (T := TT) 116 ((V0.s i).set j ⟨1, (a : Int), true, false⟩))) m.f4 = true := ps2.okA
      have ps2R : rdc 114 (setc (setc (setc cs0 m.f1 (Cell.arr (T := TT) 3 (V0.rr.set a 1))) m.f0 (Cell.arr (T := TT) 9 (V0.rt.set a z))) (rd114 V0.ps (i : Int)).f2 (Cell.arr (T := TT) 116 ((V0.s i).set j ⟨1, (a : Int), true, false⟩))) m.f4 = V0.ps := ps2.rdc
      have e6 : decide ((j : Int) < ((((V0.s i).set j ⟨1, (a : Int), true, false⟩).length : Nat) : Int)) = true := decide_eq_true (by rw [List.length_set]; omega)
      simp only [setc2, ps1.okA, ps1.rdc, q0, q1', e0, e2, e4, e5, cond_true, Int.toNat_natCast, ps2A, ps2R, t0', t1', e6]
      obtain ⟨V', k1, k2, k3⟩ := last _ _ _ R2 I2 eP L0.al (fun b => by rw [← L0.len b]; exact put_len (by rw [I0.ls]; exact hi) _ _ _ _ b) ⟨_, rfl⟩ (by rw [sE, rd116_set hj0 (by omega), if_pos rfl])
      rw [sE, ← eP] at k1
      have f3_ := R2.frSl hi0 (by rw [sE, List.length_set]; omega) (Cell.arr (T := TT) 116 (((V0.s i).set j ⟨1, (a : Int), true, false⟩).set j ⟨(rd116 ((V0.s i).set j ⟨1, (a : Int), true, false⟩) (j : Int)).f0, (rd116 ((V0.s i).set j ⟨1, (a : Int), true, false⟩) (j : Int)).f1, (rd116 ((V0.s i).set j ⟨1, (a : Int), true, false⟩) (j : Int)).f2, true⟩))
      simp only [MV.p, setc2] at k1 f2_ f3_
      exact .ret ⟨((f0_.trans f1_).trans f2_).trans f3_, fun _ => ⟨V', k1, k2, k3⟩⟩
    · have cz : (rd116 (V.s i) (j : Int)).f0 ≠ 0 := by simpa using cz
      obtain ⟨c2, g0, g1⟩ := (I.at_ hj).resolve_left cz
      have c2 := c2.resolve_left c
      obtain ⟨b, eb⟩ : ∃ b : Nat, (rd116 (V.s i) (j : Int)).f1 = b := ⟨(rd116 (V.s i) (j : Int)).f1.toNat, by omega⟩
      have hb : b < 12 := by omega
      have ub := I0.u2 hj0 (by rw [eS]; exact c2) hb (by rw [eS]; exact eb)
      have zb := I0.x2 b hb (by omega)
      have d0 : decide ((0 : Int) ≤ (b : Int)) = true := decide_eq_true (by omega)
      have d1 : decide ((b : Int) < ((V0.st.length : Nat) : Int)) = true := decide_eq_true (by rw [I0.mt]; omega)
      have d2 : decide ((b : Int) < ((V0.sr.length : Nat) : Int)) = true := decide_eq_true (by rw [I0.mr]; omega)
      have st0 := R0.st
      simp only at st0
      simp only [eb, st0.okA, st0.rdc, d0, d1, cond_true, Int.toNat_natCast]
      refine .bnd (ok110' k (by omega) (rd9 V0.st (b : Int)) (p := ⟨m.f0, m.f1⟩) R0.rt R0.rr I0.nt I0.nr) fun r3 h3 => ?_
      obtain ⟨⟨p2, a⟩, cs3⟩ := r3
      obtain ⟨ep, h3⟩ := h3
      simp only at ep h3 ⊢
      subst ep
      rcases h3 with ⟨_, _, h3⟩ | ⟨a, ha, ra, rfl, rfl⟩
      · exact absurd ra0 (h3 a0 ha0)
      have R1 := (R0.setRR (V0.rr.set a 1)).setRT (V0.rt.set a (rd9 V0.st (b : Int)))
      have f1_ := (R0.frRR (Cell.arr (T := TT) 3 (V0.rr.set a 1))).trans ((R0.setRR (V0.rr.set a 1)).frRT (Cell.arr (T := TT) 9 (V0.rt.set a (rd9 V0.st (b : Int)))))
      have sr1 := R1.sr
      have rr1 := R1.rr
      simp only at R1 f1_ sr1 rr1
      have e4 : decide ((a : Int) < (((V0.rr.set a 1).length : Nat) : Int)) = true := decide_eq_true (by rw [List.length_set, I0.nr]; omega)
      have e5 : decide ((0 : Int) ≤ (a : Int)) = true := decide_eq_true (by omega)
      simp only [setc2, sr1.okA, sr1.rdc, rr1.okA, rr1.rdc, d0, d2, e4, e5, cond_true]
      have R2 := R1.setRR ((V0.rr.set a 1).set a (rd3 V0.sr (b : Int)))
      have f2_ := R1.frRR (Cell.arr (T := TT) 3 ((V0.rr.set a 1).set a (rd3 V0.sr (b : Int))))
      simp only at R2 f2_
      refine .bnd (ok112' k hk R2 I0.np (fun i hi => I0.le i hi) 2 (b : Int) 1 (a : Int)) fun r4 h4 => ?_
      obtain ⟨m4, cs4⟩ := r4
      obtain ⟨f3_, e4', R3⟩ := h4
      simp only at f3_ e4' R3 ⊢
      subst e4'
      have sr3 := R3.sr
      have R4 := R3.setSR (V0.sr.set b 0)
      have f4_ := R3.frSR (Cell.arr (T := TT) 3 (V0.sr.set b 0))
      simp only at sr3 R4 f4_
      have st4 := R4.st
      have R5 := R4.setST (V0.st.set b (⟨#[]⟩ : ByteArray))
      have f5_ := R4.frST (Cell.arr (T := TT) 9 (V0.st.set b (⟨#[]⟩ : ByteArray)))
      simp only at st4 R5 f5_
      have hV : ({ V0 with rt := V0.rt.set a (rd9 V0.st (b : Int)), rr := (V0.rr.set a 1).set a (rd3 V0.sr (b : Int)), st := V0.st.set b (⟨#[]⟩ : ByteArray), sr := V0.sr.set b 0, sl := V0.sl.map (List.map (turnF 2 (b : Int) 1 (a : Int))) } : MV) = fetch V0 b a (⟨#[]⟩ : ByteArray) := by
        unfold fetch
        simp only [List.set_set]
      rw [hV] at R5
      have I5 : Inv (⟨m.f0, m.f1, m.f2, m.f3, m.f4, h'⟩ : S89) (fetch V0 b a (⟨#[]⟩ : ByteArray)) := I0.fetch hb ha (by omega) ra _
      have hl5 : ∀ q, ((fetch V0 b a (⟨#[]⟩ : ByteArray)).s q).length = (V0.s q).length := fun q => by rw [fetch_s, List.length_map]
      have s5 : rd116 ((fetch V0 b a (⟨#[]⟩ : ByteArray)).s i) (j : Int) = ⟨1, (a : Int), (rd116 (V0.s i) (j : Int)).f2, (rd116 (V0.s i) (j : Int)).f3⟩ := by
        rw [fetch_s, rd116_map hj0, turn_yes (tel_iff.2 ⟨by rw [eS]; exact c2, by rw [eS]; exact eb⟩)]
      have ps5 := R5.ps
      have e6 : decide ((i : Int) < ((V0.ps.length : Nat) : Int)) = true := decide_eq_true (by omega)
      have e7 : decide ((j : Int) < ((((fetch V0 b a (⟨#[]⟩ : ByteArray)).s i).length : Nat) : Int)) = true := decide_eq_true (by rw [hl5]; omega)
      obtain ⟨q0, q1⟩ := R5.so (i := i) hi0
      have q0' : okA 116 (setc (setc cs4 m.f3 (Cell.arr (T := TT) 3 (V0.sr.set b 0))) m.f2 (Cell.arr (T := TT) 9 (V0.st.set b (⟨#[]⟩ : ByteArray)))) (rd114 V0.ps (i : Int)).f2 = true := q0
      have q1' : rdc 116 (setc (setc cs4 m.f3 (Cell.arr (T := TT) 3 (V0.sr.set b 0))) m.f2 (Cell.arr (T := TT) 9 (V0.st.set b (⟨#[]⟩ : ByteArray)))) (rd114 V0.ps (i : Int)).f2 = (fetch V0 b a (⟨#[]⟩ : ByteArray)).s i := q1
      have p0 : okA 114 (setc (setc cs4 m.f3 (Cell.arr (T := TT) 3 (V0.sr.set b 0))) m.f2 (Cell.arr (T := TT) 9 (V0.st.set b (⟨#[]⟩ : ByteArray)))) m.f4 = true := ps5.okA
      have p1 : rdc 114 (setc (setc cs4 m.f3 (Cell.arr (T := TT) 3 (V0.sr.set b 0))) m.f2 (Cell.arr (T := TT) 9 (V0.st.set b (⟨#[]⟩ : ByteArray)))) m.f4 = V0.ps := ps5.rdc
      have d3 : decide ((b : Int) < ((V0.sr.length : Nat) : Int)) = true := d2
      simp only [setc2, sr3.okA, sr3.rdc, st4.okA, st4.rdc, d0, d1, d2, cond_true, Int.toNat_natCast, p0, p1, q0', q1', e0, e2, e6, e7]
      obtain ⟨V', k1, k2, k3⟩ := last _ _ _ R5 I5 eP L0.al (fun q => (hl5 q).trans (L0.len q)) ⟨_, rfl⟩ (by rw [s5])
      rw [← eP] at k1
      have f6_ := R5.frSl (i := i) hi0 (by rw [hl5]; omega) (Cell.arr (T := TT) 116 (((fetch V0 b a (⟨#[]⟩ : ByteArray)).s i).set j ⟨(rd116 ((fetch V0 b a (⟨#[]⟩ : ByteArray)).s i) (j : Int)).f0, (rd116 ((fetch V0 b a (⟨#[]⟩ : ByteArray)).s i) (j : Int)).f1, (rd116 ((fetch V0 b a (⟨#[]⟩ : ByteArray)).s i) (j : Int)).f2, true⟩))
      exact .ret ⟨(((((f0_.trans f1_).trans f2_).trans f3_).trans f4_).trans f5_).trans f6_, fun _ => ⟨V', k1, k2, k3⟩⟩
  · have c : (rd116 (V.s i) (j : Int)).f0 = 1 := by simpa using c
    simp only [setc2, Int.toNat_natCast]
    obtain ⟨V', k1, k2, k3⟩ := last _ _ _ R I rfl rfl (fun _ => rfl) ⟨_, rfl⟩ c
    exact .ret ⟨R.frSl hi' (by omega) _, fun _ => ⟨V', k1, k2, k3⟩⟩
end
end Go.Sx
namespace Go.Sx
open Go.RowKit
set_option linter.unusedVariables false
set_option linter.unusedSimpArgs false
section
variable {n : Nat} {m : S89} {V : MV}

/-- Frame c is told once less; slot (i, j), that told it, is set to y. -/
theorem give1 {cs cs' : H} (R : Rep n cs m V) {c : Nat} {T' : List ByteArray} (h : (cs' = setc cs m.f1 (.arr 3 (V.rr.set c (rd3 V.rr c - 1))) ∧ T' = V.rt) ∨ cs' = setc (setc cs m.f1 (.arr 3 (V.rr.set c (rd3 V.rr c - 1)))) m.f0 (.arr 9 T')) :
    Fr_ n cs cs' ∧ Rep n cs' m { V with rr := V.rr.set c (rd3 V.rr c - 1), rt := T' } := by
  rcases h with ⟨rfl, rfl⟩ | rfl
  · exact ⟨R.frRR _, R.setRR _⟩
  · exact ⟨(R.frRR _).trans ((R.setRR _).frRT _), (R.setRR _).setRT _⟩
theorem give2 {cs cs' : H} (R : Rep n cs m V) {c : Nat} {T' : List ByteArray} (h : (cs' = setc cs m.f3 (.arr 3 (V.sr.set c (rd3 V.sr c - 1))) ∧ T' = V.st) ∨ cs' = setc (setc cs m.f3 (.arr 3 (V.sr.set c (rd3 V.sr c - 1)))) m.f2 (.arr 9 T')) :
    Fr_ n cs cs' ∧ Rep n cs' m { V with sr := V.sr.set c (rd3 V.sr c - 1), st := T' } := by
  rcases h with ⟨rfl, rfl⟩ | rfl
  · exact ⟨R.frSR _, R.setSR _⟩
  · exact ⟨(R.frSR _).trans ((R.setSR _).frST _), (R.setSR _).setST _⟩
theorem give_sz {R : List Int} {T T' : List ByteArray} {c : Nat} (hc : c < 12) (hR : R.length = 12) (hT : T.length = 12) (h : T' = T ∨ (rd3 R c = 1 ∧ ∃ z, T' = T.set c z)) (x : ∀ a : Nat, a < 12 → rd3 R a ≠ 0 → (rd9 T a).size = 4) (h1 : 1 ≤ rd3 R c) :
    T'.length = 12 ∧ ∀ a : Nat, a < 12 → rd3 (R.set c (rd3 R c - 1)) a ≠ 0 → (rd9 T' a).size = 4 := by
  have er : ∀ b : Nat, rd3 (R.set c (rd3 R c - 1)) (b : Int) = if (b : Int) = (c : Int) then rd3 R c - 1 else rd3 R b := fun b => rd3_set (by omega) (by omega)
  rcases h with rfl | ⟨h2, z, rfl⟩
  · refine ⟨hT, fun a ha h => ?_⟩
    rw [er] at h
    by_cases q : (a : Int) = (c : Int)
    · rw [if_pos q] at h
      rw [q]; exact x c hc (by omega)
    · rw [if_neg q] at h; exact x a ha h
  · refine ⟨by rw [List.length_set]; exact hT, fun a ha h => ?_⟩
    have et : ∀ b : Nat, rd9 (T.set c z) (b : Int) = if (b : Int) = (c : Int) then z else rd9 T b := fun b => rd9_set (by omega) (by omega)
    rw [er] at h
    rw [et]
    by_cases q : (a : Int) = (c : Int)
    · rw [if_pos q] at h; omega
    · rw [if_neg q] at h; rw [if_neg q]; exact x a ha h

/-- l3Lose. -/
structure Lost (V : MV) (i j : Nat) (V' : MV) : Prop where
  ps : V'.ps = V.ps
  al : V'.al = V.al
  len : ∀ a, (V'.s a).length = (V.s a).length
  zero : rd116 (V'.s i) (j : Int) = ⟨0, 0, false, false⟩
  els : ∀ b : Nat, b < (V.s i).length → b ≠ j → rd116 (V'.s i) (b : Int) = rd116 (V.s i) (b : Int)
theorem lost_put {i j : Nat} (hi : i < V.sl.length) (hj : j < (V.s i).length) (rt : List ByteArray) (rr : List Int) (st : List ByteArray) (sr : List Int) : Lost V i j ⟨rt, rr, st, sr, V.ps, V.sl.set i ((V.s i).set j ⟨0, 0, false, false⟩), V.al⟩ :=
  ⟨rfl, rfl, fun a => put_len hi _ _ _ _ a, by rw [put_s hi, if_pos rfl, rd116_set hj (by omega), if_pos rfl], fun b hb hn => by rw [put_s hi, if_pos rfl, rd116_set hj (by omega), if_neg (by omega)]⟩
theorem ok115 (k : Nat) {cs : H} (R : Rep n cs m V) (I : Inv m V) {i j : Nat} (hi : i < 5) (hj : j < (V.s i).length) :
    Okk (f115 k (cs, m, (i : Int), (j : Int))) (fun r => Fr_ n cs r.2 ∧ r.1 = m ∧ ∃ V', Rep n r.2 m V' ∧ Inv m V' ∧ Lost V i j V') := by
  have hi' : i < V.ps.length := by rw [I.np]; exact hi
  have hl : i < V.sl.length := by rw [I.ls]; exact hi
  have e0 : decide ((0 : Int) ≤ (i : Int)) = true := decide_eq_true (by omega)
  have e1 : decide ((i : Int) < ((V.ps.length : Nat) : Int)) = true := decide_eq_true (by omega)
  have e2 : decide ((0 : Int) ≤ (j : Int)) = true := decide_eq_true (by omega)
  have e3 : decide ((j : Int) < (((V.s i).length : Nat) : Int)) = true := decide_eq_true (by omega)
  obtain ⟨o0, o1⟩ := R.so hi'
  unfold f115 start115
  simp only [R.ps.okA, R.ps.rdc, o0, o1, e0, e1, e2, e3, cond_true, setc2, Int.toNat_natCast]
  refine .cnd (fun c => ?_) fun c => .cnd (fun c' => ?_) fun c' => ?_
  · have c : (rd116 (V.s i) (j : Int)).f0 = 1 := by simpa using c
    obtain ⟨_, g0, g1⟩ := (I.at_ hj).resolve_left (by omega)
    obtain ⟨b, eb⟩ : ∃ b : Nat, (rd116 (V.s i) (j : Int)).f1 = b := ⟨(rd116 (V.s i) (j : Int)).f1.toNat, by omega⟩
    have hb : b < 12 := by omega
    have ub := I.u1 hj c hb eb
    have rb := I.r1 hb
    rw [eb]
    refine .bnd (ok113 k (p := ⟨m.f0, m.f1⟩) R.rt R.rr I.nt I.nr b hb ⟨ub, by omega⟩) fun r0 h0 => ?_
    obtain ⟨p0, cs0⟩ := r0
    obtain ⟨ep, T', hT, h0⟩ := h0
    simp only at ep h0 ⊢
    subst ep
    obtain ⟨f1_, R1⟩ := give1 R h0
    obtain ⟨z1, z2⟩ := give_sz hb I.nr I.nt hT I.x1 ub
    have ps1 := R1.ps
    obtain ⟨q0, q1⟩ := R1.so (i := i) hi'
    have q1' : rdc 116 cs0 (rd114 V.ps (i : Int)).f2 = V.s i := q1
    simp only at ps1 q0
    simp only [ps1.okA, ps1.rdc, q0, q1', e0, e1, e2, e3, cond_true]
    have R2 := R1.setSl hi' (R1.hd hi' (by show 0 < (V.s i).length; omega)) ((V.s i).set j ⟨0, 0, false, false⟩)
    have f2_ := R1.frSl hi' (by show 0 < (V.s i).length; omega) (Cell.arr (T := TT) 116 ((V.s i).set j ⟨0, 0, false, false⟩))
    refine .ret ⟨f1_.trans f2_, rfl, _, R2, I.put hi hj _ z1 (by rw [List.length_set]; exact I.nr) I.mt I.mr (fun a ha => ?_) (fun a ha => ?_) z2 I.x2 (.inl rfl), lost_put hl hj _ _ _ _⟩
    · rw [rd3_set (by rw [I.nr]; exact hb) (by omega), I.t1 a ha, tel_ne (x := ⟨0, 0, false, false⟩) (by simp)]
      by_cases q : (a : Int) = (b : Int)
      · rw [if_pos q, q, tel_iff.2 ⟨c, eb⟩, b2t, b2f]; omega
      · rw [if_neg q, tel_ne (x := rd116 (V.s i) (j : Int)) (by omega)]
    · rw [I.t2 a ha, tel_ne (x := ⟨0, 0, false, false⟩) (by simp), tel_ne (x := rd116 (V.s i) (j : Int)) (by omega)]
  · have c' : (rd116 (V.s i) (j : Int)).f0 = 2 := by simpa using c'
    obtain ⟨_, g0, g1⟩ := (I.at_ hj).resolve_left (by omega)
    obtain ⟨b, eb⟩ : ∃ b : Nat, (rd116 (V.s i) (j : Int)).f1 = b := ⟨(rd116 (V.s i) (j : Int)).f1.toNat, by omega⟩
    have hb : b < 12 := by omega
    have ub := I.u2 hj c' hb eb
    have rb := I.r2 hb
    rw [eb]
    refine .bnd (ok113 k (p := ⟨m.f2, m.f3⟩) R.st R.sr I.mt I.mr b hb ⟨ub, by omega⟩) fun r0 h0 => ?_
    obtain ⟨p0, cs0⟩ := r0
    obtain ⟨ep, T', hT, h0⟩ := h0
    simp only at ep h0 ⊢
    subst ep
    obtain ⟨f1_, R1⟩ := give2 R h0
    obtain ⟨z1, z2⟩ := give_sz hb I.mr I.mt hT I.x2 ub
    have ps1 := R1.ps
    obtain ⟨q0, q1⟩ := R1.so (i := i) hi'
    have q1' : rdc 116 cs0 (rd114 V.ps (i : Int)).f2 = V.s i := q1
    simp only at ps1 q0
    simp only [ps1.okA, ps1.rdc, q0, q1', e0, e1, e2, e3, cond_true]
    have R2 := R1.setSl hi' (R1.hd hi' (by show 0 < (V.s i).length; omega)) ((V.s i).set j ⟨0, 0, false, false⟩)
    have f2_ := R1.frSl hi' (by show 0 < (V.s i).length; omega) (Cell.arr (T := TT) 116 ((V.s i).set j ⟨0, 0, false, false⟩))
    refine .ret ⟨f1_.trans f2_, rfl, _, R2, I.put hi hj _ I.nt I.nr z1 (by rw [List.length_set]; exact I.mr) (fun a ha => ?_) (fun a ha => ?_) I.x1 z2 (.inl rfl), lost_put hl hj _ _ _ _⟩
    · rw [I.t1 a ha, tel_ne (x := ⟨0, 0, false, false⟩) (by simp), tel_ne (x := rd116 (V.s i) (j : Int)) (by omega)]
    · rw [rd3_set (by rw [I.mr]; exact hb) (by omega), I.t2 a ha, tel_ne (x := ⟨0, 0, false, false⟩) (by simp)]
      by_cases q : (a : Int) = (b : Int)
      · rw [if_pos q, q, tel_iff.2 ⟨c', eb⟩, b2t, b2f]; omega
      · rw [if_neg q, tel_ne (x := rd116 (V.s i) (j : Int)) (by omega)]
  · have c : (rd116 (V.s i) (j : Int)).f0 ≠ 1 := by simpa using c
    have c' : (rd116 (V.s i) (j : Int)).f0 ≠ 2 := by simpa using c'
    have c0 : (rd116 (V.s i) (j : Int)).f0 = 0 := by
      rcases I.at_ hj with h | ⟨h | h, _⟩
      · exact h
      · exact absurd h c
      · exact absurd h c'
    have R2 := R.setSl hi' (R.hd hi' (by omega)) ((V.s i).set j ⟨0, 0, false, false⟩)
    have f2_ := R.frSl hi' (by omega) (Cell.arr (T := TT) 116 ((V.s i).set j ⟨0, 0, false, false⟩))
    refine .ret ⟨f2_, rfl, _, R2, I.put hi hj _ I.nt I.nr I.mt I.mr (fun a ha => ?_) (fun a ha => ?_) I.x1 I.x2 (.inl rfl), lost_put hl hj _ _ _ _⟩
    · rw [I.t1 a ha, tel_ne (x := ⟨0, 0, false, false⟩) (by simp), tel_ne (x := rd116 (V.s i) (j : Int)) (by omega)]
    · rw [I.t2 a ha, tel_ne (x := ⟨0, 0, false, false⟩) (by simp), tel_ne (x := rd116 (V.s i) (j : Int)) (by omega)]

/-- l3Own. -/
theorem ok96 (k : Nat) (hk : 1000 < k) {cs : H} (R : Rep n cs m V) (I : Inv m V) {i j : Nat} (hi : i < 5) (hj : j < (V.s i).length) (h1 : (rd116 (V.s i) (j : Int)).f0 = 1) :
    Okk (f96 k (cs, m, (i : Int), (j : Int))) (fun r => Fr_ n cs r.2 ∧ (r.1.2 = true → ∃ V', Rep n r.2 r.1.1 V' ∧ Inv r.1.1 V' ∧ Brt m V i j r.1.1 V')) := by
  have hi' : i < V.ps.length := by rw [I.np]; exact hi
  have e0 : decide ((0 : Int) ≤ (i : Int)) = true := decide_eq_true (by omega)
  have e1 : decide ((i : Int) < ((V.ps.length : Nat) : Int)) = true := decide_eq_true (by omega)
  have e2 : decide ((0 : Int) ≤ (j : Int)) = true := decide_eq_true (by omega)
  have e3 : decide ((j : Int) < (((V.s i).length : Nat) : Int)) = true := decide_eq_true (by omega)
  obtain ⟨o0, o1⟩ := R.so hi'
  obtain ⟨_, g0, g1⟩ := (I.at_ hj).resolve_left (by omega)
  obtain ⟨b, eb⟩ : ∃ b : Nat, (rd116 (V.s i) (j : Int)).f1 = b := ⟨(rd116 (V.s i) (j : Int)).f1.toNat, by omega⟩
  have hb : b < 12 := by omega
  obtain ⟨k', ek⟩ : ∃ q, k = q + 2 := ⟨k - 2, by omega⟩
  have d0 : decide ((0 : Int) ≤ (b : Int)) = true := decide_eq_true (by omega)
  have d1 : decide ((b : Int) < ((V.rr.length : Nat) : Int)) = true := decide_eq_true (by rw [I.nr]; omega)
  -- one's own already
  have plain : ∀ (kk : Nat) (f3 : Bool), Okk (run (step96 (f109 k) (f110 k) (f113 k)) (kk + 1) (J96.j10 (i : Int) (j : Int) cs m.f0 m.f1 m.f2 m.f3 m.f4 m.f5 0 (rd116 (V.s i) (j : Int)).f0 (b : Int) f3 (rd116 (V.s i) (j : Int)).f3)) (fun r => Fr_ n cs r.2 ∧ (r.1.2 = true → ∃ V', Rep n r.2 r.1.1 V' ∧ Inv r.1.1 V' ∧ Brt m V i j r.1.1 V')) := by
    intro kk f3
    rw [run_succ]; simp only [step96, R.ps.okA, R.ps.rdc, o0, o1, e0, e1, e2, e3, cond_true, setc2, Int.toNat_natCast]
    refine .ret ⟨R.frSl hi' (by omega) _, fun _ => ⟨_, R.setSl hi' (R.hd hi' (by omega)) _, I.same hi hj _ rfl eb.symm, ⟨m.f5, rfl⟩, rfl, rfl, fun a => put_len (by rw [I.ls]; exact hi) _ _ _ _ a, ?_⟩⟩
    rw [MV.s_set (by rw [I.ls]; exact hi), if_pos rfl, rd116_set hj (by omega), if_pos rfl]; exact h1
  unfold f96 start96
  simp only [R.ps.okA, R.ps.rdc, R.rr.okA, R.rr.rdc, o0, o1, e0, e1, e2, e3, eb, d0, d1, cond_true]
  rw [show run (step96 (f109 k) (f110 k) (f113 k)) k = run (step96 (f109 k) (f110 k) (f113 k)) (k' + 2) from by rw [← ek]]
  refine .cnd (fun _ => .cnd (fun c => ?_) fun _ => plain _ _) fun _ => plain _ _
  have c : 1 < rd3 V.rr b := by simpa using c
  rw [run_succ]; simp only [step96]
  refine .bnd (ok109' k hk R I (b : Int)) fun r0 h0 => ?_
  obtain ⟨⟨m0, b0⟩, cs0⟩ := r0
  obtain ⟨f0_, h0⟩ := h0
  simp only at f0_ h0 ⊢
  refine .cnd (fun _ => .ret ⟨f0_, fun h => by cases h⟩) fun cb => ?_
  obtain ⟨V0, h', em, R0, I0, L0, a0, ha0, ra0⟩ := h0 (by simpa using cb)
  subst em
  have hi0 : i < V0.ps.length := by rw [I0.np]; exact hi
  have hj0 : j < (V0.s i).length := by rw [L0.len]; exact hj
  have hl0 : i < V0.sl.length := by rw [I0.ls]; exact hi
  obtain ⟨s0, s1⟩ := L0.but_ i j hj h1 eb
  have ub := I0.u1 hj0 s0 hb s1
  have rb := I0.r1 hb
  have d2 : decide ((b : Int) < ((V0.rt.length : Nat) : Int)) = true := decide_eq_true (by rw [I0.nt]; omega)
  have rt0 := R0.rt
  simp only at rt0
  simp only [rt0.okA, rt0.rdc, d0, d2, cond_true]
  refine .bnd (ok110' k (by omega) (rd9 V0.rt (b : Int)) (p := ⟨m.f0, m.f1⟩) R0.rt R0.rr I0.nt I0.nr) fun r1 h2 => ?_
  obtain ⟨⟨p2, a⟩, cs2⟩ := r1
  obtain ⟨ep, h2⟩ := h2
  simp only at ep h2 ⊢
  subst ep
  rcases h2 with ⟨_, _, h2⟩ | ⟨a, ha, ra, rfl, rfl⟩
  · exact absurd ra0 (h2 a0 ha0)
  have hab : a ≠ b := fun e => by subst e; omega
  have R1 := (R0.setRR (V0.rr.set a 1)).setRT (V0.rt.set a (rd9 V0.rt (b : Int)))
  have f1_ := (R0.frRR (Cell.arr (T := TT) 3 (V0.rr.set a 1))).trans ((R0.setRR (V0.rr.set a 1)).frRT (Cell.arr (T := TT) 9 (V0.rt.set a (rd9 V0.rt (b : Int)))))
  simp only at R1 f1_
  have er : ∀ q : Nat, rd3 (V0.rr.set a 1) (q : Int) = if (q : Int) = (a : Int) then 1 else rd3 V0.rr q := fun q => rd3_set (by rw [I0.nr]; exact ha) (by omega)
  have et : ∀ q : Nat, rd9 (V0.rt.set a (rd9 V0.rt (b : Int))) (q : Int) = if (q : Int) = (a : Int) then rd9 V0.rt (b : Int) else rd9 V0.rt q := fun q => rd9_set (by rw [I0.nt]; exact ha) (by omega)
  have eb' : rd3 (V0.rr.set a 1) (b : Int) = rd3 V0.rr b := by rw [er, if_neg (by omega)]
  refine .bnd (ok113 k (p := ⟨m.f0, m.f1⟩) R1.rt R1.rr (by simp only [List.length_set]; exact I0.nt) (by simp only [List.length_set]; exact I0.nr) b hb ⟨by rw [eb']; exact ub, by rw [eb']; omega⟩) fun r2 h3 => ?_
  obtain ⟨p3, cs3⟩ := r2
  obtain ⟨ep, T', hT, h3⟩ := h3
  simp only at ep h3 ⊢
  subst ep
  obtain ⟨f2_, R2⟩ := give1 R1 h3
  have x1' : ∀ q : Nat, q < 12 → rd3 (V0.rr.set a 1) q ≠ 0 → (rd9 (V0.rt.set a (rd9 V0.rt (b : Int))) q).size = 4 := fun q hq => by
    rw [er, et]
    by_cases w : (q : Int) = (a : Int)
    · rw [if_pos w, if_pos w]; exact fun _ => I0.x1 b hb (by omega)
    · rw [if_neg w, if_neg w]; exact I0.x1 q hq
  obtain ⟨z1, z2⟩ := give_sz hb (by simp only [List.length_set]; exact I0.nr) (by simp only [List.length_set]; exact I0.nt) hT x1' (by rw [eb']; exact ub)
  have ps2 := R2.ps
  obtain ⟨q0, q1⟩ := R2.so (i := i) hi0
  have q1' : rdc 116 cs3 (rd114 V0.ps (i : Int)).f2 = V0.s i := q1
  have e4 : decide ((i : Int) < ((V0.ps.length : Nat) : Int)) = true := decide_eq_true (by omega)
  have e5 : decide ((j : Int) < (((V0.s i).length : Nat) : Int)) = true := decide_eq_true (by omega)
  simp only at ps2 q0
  rw [run_succ]; simp only [step96, ps2.okA, ps2.rdc, q0, q1', e0, e2, e4, e5, cond_true, setc2, Int.toNat_natCast]
  have R3 := R2.setSl hi0 (R2.hd hi0 (by show 0 < (V0.s i).length; omega)) ((V0.s i).set j ⟨(rd116 (V.s i) (j : Int)).f0, (a : Int), true, (rd116 (V.s i) (j : Int)).f3⟩)
  have f3_ := R2.frSl hi0 (by show 0 < (V0.s i).length; omega) (Cell.arr (T := TT) 116 ((V0.s i).set j ⟨(rd116 (V.s i) (j : Int)).f0, (a : Int), true, (rd116 (V.s i) (j : Int)).f3⟩))
  refine .ret ⟨((f0_.trans f1_).trans f2_).trans f3_, fun _ => ⟨_, R3, I0.put hi hj0 _ z1 (by simp only [List.length_set]; exact I0.nr) I0.mt I0.mr (fun q hq => ?_) (fun q hq => ?_) z2 I0.x2 (.inr ⟨.inl h1, by simp only; omega, by simp only; omega⟩), ⟨_, rfl⟩, L0.ps, L0.al, fun q => by rw [← L0.len q]; exact put_len hl0 _ _ _ _ q, ?_⟩⟩
  · rw [rd3_set (by simp only [List.length_set]; rw [I0.nr]; exact hb) (by omega), eb', er, I0.t1 q hq]
    by_cases w : (q : Int) = (b : Int)
    · rw [if_pos w, w, tel_iff.2 ⟨s0, s1⟩, tel_ne (x := ⟨(rd116 (V.s i) (j : Int)).f0, (a : Int), true, (rd116 (V.s i) (j : Int)).f3⟩) (by simp only; omega), b2t, b2f]; omega
    · rw [if_neg w, tel_ne (x := rd116 (V0.s i) (j : Int)) (by omega), b2f]
      by_cases w2 : (q : Int) = (a : Int)
      · have tt : tel 1 (a : Int) (⟨(rd116 (V.s i) (j : Int)).f0, (a : Int), true, (rd116 (V.s i) (j : Int)).f3⟩ : S76) = true := tel_iff.2 ⟨h1, rfl⟩
        rw [if_pos w2, w2, tt, b2t, ra]; omega
      · rw [if_neg w2, tel_ne (by simp only; omega), b2f]
  · rw [I0.t2 q hq, tel_ne (x := rd116 (V0.s i) (j : Int)) (by omega), tel_ne (by simp only; omega)]
  · rw [put_s hl0, if_pos rfl, rd116_set hj0 (by omega), if_pos rfl]; exact h1
end
end Go.Sx
