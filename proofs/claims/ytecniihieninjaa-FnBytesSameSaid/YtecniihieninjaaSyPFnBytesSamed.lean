/- The plain law FnBytesSame, over what its functions compute: a part. No further condition. -/
import Derived.Test.YtecniihieninjaaSyPFnBytesSamec
set_option linter.unusedVariables false
set_option linter.unusedSimpArgs false
namespace Go.Sx
open Go.RowKit
set_option linter.unusedVariables false
set_option linter.unusedSimpArgs false
section
variable {n : Nat} {m : S89} {V : MV}

theorem MV.p_set {i j : Nat} {x : S114} (hi : i < V.ps.length) : rd114 (V.ps.set i x) (j : Int) = if j = i then x else V.p j := by
  rw [rd114_set hi (by omega)]
  by_cases c : j = i
  · rw [if_pos c, if_pos (by omega)]
  · rw [if_neg c, if_neg (by omega)]; rfl
/-- A space is set. -/
theorem Rep.setP {cs : H} (R : Rep n cs m V) {i : Nat} (hi : i < V.ps.length) (x : S114) {s a : List S76} (hs : Hz n cs x.f2 116 s) (ha : Hz n cs x.f1 76 a) (ds : ∀ j, j < V.ps.length → j ≠ i → x.f2 = (V.p j).f2 → x.f2 = 0) (da : ∀ j, j < V.ps.length → j ≠ i → x.f1 = (V.p j).f1 → x.f1 = 0) :
    Rep n (setc cs m.f4 (.arr 114 (V.ps.set i x))) m ⟨V.rt, V.rr, V.st, V.sr, V.ps.set i x, V.sl.set i s, V.al.set i a⟩ := by
  have ep : ∀ j : Nat, (⟨V.rt, V.rr, V.st, V.sr, V.ps.set i x, V.sl.set i s, V.al.set i a⟩ : MV).p j = if j = i then x else V.p j := fun j => MV.p_set hi
  have es : ∀ j : Nat, (⟨V.rt, V.rr, V.st, V.sr, V.ps.set i x, V.sl.set i s, V.al.set i a⟩ : MV).s j = if j = i then s else V.s j := fun j => getD_set (by rw [R.ls]; exact hi)
  have ea : ∀ j : Nat, (⟨V.rt, V.rr, V.st, V.sr, V.ps.set i x, V.sl.set i s, V.al.set i a⟩ : MV).a j = if j = i then a else V.a j := fun j => getD_set (by rw [R.la]; exact hi)
  refine ⟨R.rt.ty R.ps (by decide) _, R.rr.ty R.ps (by decide) _, R.st.ty R.ps (by decide) _, R.sr.ty R.ps (by decide) _, R.ps.set _, by simp only [List.length_set]; exact R.ls, by simp only [List.length_set]; exact R.la, fun j hj => ?_, fun j hj => ?_, R.dt, R.dr, fun j q hj hq => ?_, fun j q hj hq => ?_⟩
  · simp only [List.length_set] at hj
    rw [ep, es]
    split
    · exact hs.ty R.ps (by decide) _
    · exact (R.sl j hj).ty R.ps (by decide) _
  · simp only [List.length_set] at hj
    rw [ep, ea]
    split
    · exact ha.ty R.ps (by decide) _
    · exact (R.al j hj).ty R.ps (by decide) _
  · simp only [List.length_set] at hj hq
    rw [ep, ep]
    by_cases c1 : j = i <;> by_cases c2 : q = i
    · exact fun _ => .inr (c1.trans c2.symm)
    · rw [if_pos c1, if_neg c2]; exact fun e => .inl (ds q hq c2 e)
    · rw [if_neg c1, if_pos c2]; exact fun e => .inl (by rw [e]; exact ds j hj c1 e.symm)
    · rw [if_neg c1, if_neg c2]; exact R.ds j q hj hq
  · simp only [List.length_set] at hj hq
    rw [ep, ep]
    by_cases c1 : j = i <;> by_cases c2 : q = i
    · exact fun _ => .inr (c1.trans c2.symm)
    · rw [if_pos c1, if_neg c2]; exact fun e => .inl (da q hq c2 e)
    · rw [if_neg c1, if_pos c2]; exact fun e => .inl (by rw [e]; exact da j hj c1 e.symm)
    · rw [if_neg c1, if_neg c2]; exact R.da j q hj hq

/-- l3Copy. -/
structure Cp (N : Nat) (cs : H) (V : MV) (i : Nat) (ps : List S114) : Prop where
  len : ps.length = i
  lv : ∀ a, a < i → (rd114 ps (a : Int)).f0 = (V.p a).f0
  sl : ∀ a, a < i → Hd N cs (rd114 ps (a : Int)).f2 116 (V.s a)
  al : ∀ a, a < i → Hd N cs (rd114 ps (a : Int)).f1 76 (V.a a)
  ds : ∀ a b, a < i → b < i → (rd114 ps (a : Int)).f2 = (rd114 ps (b : Int)).f2 → a = b
  da : ∀ a b, a < i → b < i → (rd114 ps (a : Int)).f1 = (rd114 ps (b : Int)).f1 → a = b
theorem rd114_app {l : List S114} {x : S114} {a : Nat} : rd114 (l ++ [x]) (a : Int) = if a < l.length then rd114 l (a : Int) else if a = l.length then x else ⟨false, 0, 0⟩ := by
  unfold rd114
  simp only [Int.toNat_natCast, List.getD_eq_getElem?_getD]
  by_cases h : a < l.length
  · rw [if_pos h, List.getElem?_append_left h]
  · rw [if_neg h, List.getElem?_append_right (by omega)]
    by_cases h2 : a = l.length
    · subst h2; simp
    · rw [if_neg h2]
      have : a - l.length ≠ 0 := by omega
      obtain ⟨q, hq⟩ : ∃ q, a - l.length = q + 1 := ⟨a - l.length - 1, by omega⟩
      rw [hq]; rfl
theorem Cp.step {N : Nat} {cs cs' : H} {i : Nat} {ps : List S114} (C : Cp N cs V i ps) (f : Fr_ cs.length cs cs') {x : S114} (h0 : x.f0 = (V.p i).f0) (h1 : Hd cs.length cs' x.f1 76 (V.a i)) (h2 : Hd cs.length cs' x.f2 116 (V.s i)) (hN : N ≤ cs.length) : Cp N cs' V (i + 1) (ps ++ [x]) := by
  have e : ∀ a, a < i → rd114 (ps ++ [x]) (a : Int) = rd114 ps (a : Int) := fun a ha => by rw [rd114_app, if_pos (by rw [C.len]; exact ha)]
  have e2 : rd114 (ps ++ [x]) (i : Int) = x := by rw [rd114_app, if_neg (by rw [C.len]; omega), if_pos C.len.symm]
  refine ⟨by simp [C.len], fun a ha => ?_, fun a ha => ?_, fun a ha => ?_, fun a b ha hb => ?_, fun a b ha hb => ?_⟩
  · by_cases c : a < i
    · rw [e a c]; exact C.lv a c
    · obtain rfl : a = i := by omega
      rw [e2]; exact h0
  · by_cases c : a < i
    · rw [e a c]; exact (C.sl a c).fr' f
    · obtain rfl : a = i := by omega
      rw [e2]; exact h2.mono hN
  · by_cases c : a < i
    · rw [e a c]; exact (C.al a c).fr' f
    · obtain rfl : a = i := by omega
      rw [e2]; exact h1.mono hN
  · by_cases c : a < i <;> by_cases d : b < i
    · rw [e a c, e b d]; exact C.ds a b c d
    · obtain rfl : b = i := by omega
      rw [e a c, e2]
      intro h
      have := (C.sl a c).lt
      have := h2.1
      omega
    · obtain rfl : a = i := by omega
      rw [e2, e b d]
      intro h
      have := (C.sl b d).lt
      have := h2.1
      omega
    · omega
  · by_cases c : a < i <;> by_cases d : b < i
    · rw [e a c, e b d]; exact C.da a b c d
    · obtain rfl : b = i := by omega
      rw [e a c, e2]
      intro h
      have := (C.al a c).lt
      have := h1.1
      omega
    · obtain rfl : a = i := by omega
      rw [e2, e b d]
      intro h
      have := (C.al b d).lt
      have := h1.1
      omega
    · omega
theorem Cp.fr {N : Nat} {cs cs' : H} {i : Nat} {ps : List S114} (C : Cp N cs V i ps) (h : ∀ t q (ys : List (TT t)), t ≠ 114 → Hd N cs q t ys → Hd N cs' q t ys) : Cp N cs' V i ps := ⟨C.len, C.lv, fun a ha => h _ _ _ (by decide) (C.sl a ha), fun a ha => h _ _ _ (by decide) (C.al a ha), C.ds, C.da⟩

theorem ok92 (K : Nat) (N : Nat) (h5 : V.ps.length = 5) (h16 : ∀ i, i < 5 → (V.s i).length ≤ 16) (h6 : ∀ i, i < 5 → (V.a i).length ≤ 6) (x9 x10 x11 x12 : Nat) (x14 x8 : Int) : ∀ (e i k : Nat) (cs : H) (o : Nat) (ps : List S114), i + e = 5 → e < k → Rep 0 cs m V → m.f4 ≤ N → (∀ q, q < 5 → (V.p q).f1 ≤ N ∧ (V.p q).f2 ≤ N) → N ≤ cs.length → Hd N cs o 114 ps → Cp N cs V i ps →
    Okk (run (step92 (f106 K)) k (J92.j3 (i : Int) cs m.f0 m.f1 m.f2 m.f3 m.f4 m.f5 x8 x9 x10 x11 x12 o x14)) (fun r => Fr_ N cs r.2 ∧ (∀ t q (ys : List (TT t)), t ≠ 114 → Hd N cs q t ys → Hd N r.2 q t ys) ∧ ∃ o' ps', r.1 = ⟨x9, x10, x11, x12, o', x14⟩ ∧ Hd N r.2 o' 114 ps' ∧ Cp N r.2 V 5 ps')
  | 0, i, k, cs, o, ps, he, hk, R, hm, hq, hN, O, C => by
    obtain ⟨k, rfl⟩ : ∃ j, k = j + 1 := ⟨k - 1, by omega⟩
    obtain rfl : i = 5 := by omega
    rw [run_succ]; simp only [step92, R.ps.okR, R.ps.rdc, cond_true]
    have e : decide (((5 : Nat) : Int) < ((V.ps.length : Nat) : Int)) = false := decide_eq_false (by omega)
    rw [e]
    exact .ret ⟨.refl _ _, fun _ _ _ _ h => h, o, ps, rfl, O, C⟩
  | e + 1, i, k, cs, o, ps, he, hk, R, hm, hq, hN, O, C => by
    obtain ⟨k, rfl⟩ : ∃ j, k = j + 1 := ⟨k - 1, by omega⟩
    have hi : i < V.ps.length := by omega
    have e0 : decide ((0 : Int) ≤ (i : Int)) = true := decide_eq_true (by omega)
    have e1 : decide ((i : Int) < ((V.ps.length : Nat) : Int)) = true := decide_eq_true (by omega)
    have a0 : okA 76 cs (rd114 V.ps (i : Int)).f1 = true := (R.al i hi).okA
    have a1 : rdc 76 cs (rd114 V.ps (i : Int)).f1 = V.a i := (R.al i hi).rdc
    have s1 := (R.sl i hi).app [Cell.arr (T := TT) 76 (V.a i)]
    have s0 : okA 116 (cs ++ [Cell.arr (T := TT) 76 (V.a i)]) (rd114 V.ps (i : Int)).f2 = true := s1.okA
    have s2 : rdc 116 (cs ++ [Cell.arr (T := TT) 76 (V.a i)]) (rd114 V.ps (i : Int)).f2 = V.s i := s1.rdc
    have O2 := (O.app [Cell.arr (T := TT) 76 (V.a i)]).app [Cell.arr (T := TT) 116 (V.s i)]
    rw [run_succ]; simp only [step92, R.ps.okA, R.ps.okR, R.ps.rdc, e0, e1, a0, a1, cond_true, List.nil_append, s0, s2, O2.okA, O2.rdc]
    have b6 := h6 i (by omega)
    have b16 := h16 i (by omega)
    refine .chk (by simp only [List.length_nil]; omega) (.chk (by simp only [List.length_nil]; omega) (.chk (by simp only [List.length_cons, List.length_nil]; rw [C.len]; omega) ?_))
    rw [wsucc (by omega)]
    have A1 : Hd cs.length (cs ++ [Cell.arr (T := TT) 76 (V.a i)]) (cs.length + 1) 76 (V.a i) := .new (Nat.le_refl _) _
    have A2 : Hd cs.length ((cs ++ [Cell.arr (T := TT) 76 (V.a i)]) ++ [Cell.arr (T := TT) 116 (V.s i)]) ((cs ++ [Cell.arr (T := TT) 76 (V.a i)]).length + 1) 116 (V.s i) := .new (by simp) _
    have A1' := A1.app [Cell.arr (T := TT) 116 (V.s i)]
    have fA : Fr_ cs.length cs ((cs ++ [Cell.arr (T := TT) 76 (V.a i)]) ++ [Cell.arr (T := TT) 116 (V.s i)]) := by rw [List.append_assoc]; exact .app' _
    have C2 := C.step fA (x := ⟨(rd114 V.ps (i : Int)).f0, cs.length + 1, (cs ++ [Cell.arr (T := TT) 76 (V.a i)]).length + 1⟩) rfl A1' A2 hN
    obtain ⟨g1, g2⟩ := grow O2 (Nat.le_refl N) (by simp; omega) (Cell.arr (T := TT) 114 [(⟨(rd114 V.ps (i : Int)).f0, cs.length + 1, (cs ++ [Cell.arr (T := TT) 76 (V.a i)]).length + 1⟩ : S114)]) (ps ++ [(⟨(rd114 V.ps (i : Int)).f0, cs.length + 1, (cs ++ [Cell.arr (T := TT) 76 (V.a i)]).length + 1⟩ : S114)])
    have keep : ∀ t q (ys : List (TT t)), t ≠ 114 → Hd N ((cs ++ [Cell.arr (T := TT) 76 (V.a i)]) ++ [Cell.arr (T := TT) 116 (V.s i)]) q t ys → Hd N ((setc ((cs ++ [Cell.arr (T := TT) 76 (V.a i)]) ++ [Cell.arr (T := TT) 116 (V.s i)]) o .dead ++ [Cell.arr (T := TT) 114 [(⟨(rd114 V.ps (i : Int)).f0, cs.length + 1, (cs ++ [Cell.arr (T := TT) 76 (V.a i)]).length + 1⟩ : S114)]]) ++ [Cell.arr (T := TT) 114 (ps ++ [(⟨(rd114 V.ps (i : Int)).f0, cs.length + 1, (cs ++ [Cell.arr (T := TT) 76 (V.a i)]).length + 1⟩ : S114)])]) q t ys := fun t q ys ht h => ((h.ty O2 ht _).app _).app _
    have fAll : Fr_ N cs ((setc ((cs ++ [Cell.arr (T := TT) 76 (V.a i)]) ++ [Cell.arr (T := TT) 116 (V.s i)]) o .dead ++ [Cell.arr (T := TT) 114 [(⟨(rd114 V.ps (i : Int)).f0, cs.length + 1, (cs ++ [Cell.arr (T := TT) 76 (V.a i)]).length + 1⟩ : S114)]]) ++ [Cell.arr (T := TT) 114 (ps ++ [(⟨(rd114 V.ps (i : Int)).f0, cs.length + 1, (cs ++ [Cell.arr (T := TT) 76 (V.a i)]).length + 1⟩ : S114)])]) := (fA.mono hN).trans g1
    have R2 : Rep 0 ((setc ((cs ++ [Cell.arr (T := TT) 76 (V.a i)]) ++ [Cell.arr (T := TT) 116 (V.s i)]) o .dead ++ [Cell.arr (T := TT) 114 [(⟨(rd114 V.ps (i : Int)).f0, cs.length + 1, (cs ++ [Cell.arr (T := TT) 76 (V.a i)]).length + 1⟩ : S114)]]) ++ [Cell.arr (T := TT) 114 (ps ++ [(⟨(rd114 V.ps (i : Int)).f0, cs.length + 1, (cs ++ [Cell.arr (T := TT) 76 (V.a i)]).length + 1⟩ : S114)])]) m V := by
      have RA := R.fr' fA
      have kz : ∀ t q (ys : List (TT t)), t ≠ 114 → Hd 0 ((cs ++ [Cell.arr (T := TT) 76 (V.a i)]) ++ [Cell.arr (T := TT) 116 (V.s i)]) q t ys → Hd 0 ((setc ((cs ++ [Cell.arr (T := TT) 76 (V.a i)]) ++ [Cell.arr (T := TT) 116 (V.s i)]) o .dead ++ [Cell.arr (T := TT) 114 [(⟨(rd114 V.ps (i : Int)).f0, cs.length + 1, (cs ++ [Cell.arr (T := TT) 76 (V.a i)]).length + 1⟩ : S114)]]) ++ [Cell.arr (T := TT) 114 (ps ++ [(⟨(rd114 V.ps (i : Int)).f0, cs.length + 1, (cs ++ [Cell.arr (T := TT) 76 (V.a i)]).length + 1⟩ : S114)])]) q t ys := fun t q ys ht h => ((h.ty O2 ht _).app _).app _
      exact ⟨kz _ _ _ (by decide) RA.rt, kz _ _ _ (by decide) RA.rr, kz _ _ _ (by decide) RA.st, kz _ _ _ (by decide) RA.sr, RA.ps.fr g1 hm, R.ls, R.la, fun q hq' => (RA.sl q hq').imp id fun h => kz _ _ _ (by decide) h, fun q hq' => (RA.al q hq').imp id fun h => kz _ _ _ (by decide) h, R.dt, R.dr, R.ds, R.da⟩
    refine (ok92 K N h5 h16 h6 x9 x10 x11 x12 x14 x8 e (i + 1) k _ _ _ (by omega) (by omega) R2 hm hq (by simp only [List.length_append, setc_len]; omega) g2 (C2.fr keep)).mono fun r hr => ?_
    exact ⟨fAll.trans hr.1, fun t q ys ht h => hr.2.1 t q ys ht (keep t q ys ht (h.fr' fA)), hr.2.2⟩

/-- What a copy is. -/
structure Cpy (m : S89) (V : MV) (m' : S89) (V' : MV) : Prop where
  rt : V'.rt = V.rt
  rr : V'.rr = V.rr
  st : V'.st = V.st
  sr : V'.sr = V.sr
  sl : V'.sl = V.sl
  al : V'.al = V.al
  pl : V'.ps.length = V.ps.length
  lv : ∀ a, a < V.ps.length → (V'.p a).f0 = (V.p a).f0
  hd : m'.f5 = m.f5
theorem Inv.copy (I : Inv m V) {m' : S89} {V' : MV} (C : Cpy m V m' V') : Inv m' V' where
  nt := by rw [C.rt]; exact I.nt
  nr := by rw [C.rr]; exact I.nr
  mt := by rw [C.st]; exact I.mt
  mr := by rw [C.sr]; exact I.mr
  np := by rw [C.pl]; exact I.np
  ls := by rw [C.sl]; exact I.ls
  live := fun i hi h => by
    have : V'.s i = V.s i := by unfold MV.s; rw [C.sl]
    rw [this]; exact I.live i hi (by rw [← C.lv i (by rw [I.np]; exact hi)]; exact h)
  dead := fun i hi h => by
    have : V'.s i = V.s i := by unfold MV.s; rw [C.sl]
    rw [this]; exact I.dead i hi (by rw [← C.lv i (by rw [I.np]; exact hi)]; exact h)
  al := fun i hi => by
    have : V'.a i = V.a i := by unfold MV.a; rw [C.al]
    rw [this]; exact I.al i hi
  t1 := by rw [C.sl, C.rr]; exact I.t1
  t2 := by rw [C.sl, C.sr]; exact I.t2
  x1 := by rw [C.rt, C.rr]; exact I.x1
  x2 := by rw [C.st, C.sr]; exact I.x2
  rng := by rw [C.sl]; exact I.rng
  hd := by rw [C.hd]; exact I.hd
theorem MV.s_none {i : Nat} (h : V.sl.length ≤ i) : V.s i = [] := by simp [MV.s, h]
theorem ok92' (k : Nat) (hk : 100 < k) {cs : H} (R : Rep n cs m V) (I : Inv m V) :
    Okk (f92 k (cs, m)) (fun r => Fr_ cs.length cs r.2 ∧ ∃ V', Rep cs.length r.2 r.1 V' ∧ Cpy m V r.1 V') := by
  have R0 := R.mono (Nat.zero_le n)
  unfold f92 start92
  refine .bnd (ok106 k (p := ⟨m.f0, m.f1⟩) (Nat.le_refl cs.length) R.rt R.rr I.nt I.nr) fun r0 h0 => ?_
  obtain ⟨p0, cs0⟩ := r0
  obtain ⟨f0_, a0, b0⟩ := h0
  simp only at f0_ a0 b0 ⊢
  have R1 := R.fr' f0_
  refine .bnd (ok106 k (p := ⟨m.f2, m.f3⟩) (Nat.le_refl cs0.length) R1.st R1.sr I.mt I.mr) fun r1 h1 => ?_
  obtain ⟨p1, cs1⟩ := r1
  obtain ⟨f1_, a1, b1⟩ := h1
  simp only at f1_ a1 b1 ⊢
  have hl := f0_.le
  have f1' := f1_.mono hl
  have R2 := R1.fr' f1_
  have key := ok92 k cs.length I.np (fun i hi => I.le i hi) I.al p0.f0 p0.f1 p1.f0 p1.f1 m.f5 0 (m := m) (V := V) 5 0 k (cs1 ++ [Cell.arr (T := TT) 114 []]) (cs1.length + 1) [] (by omega) (by omega) ((R2.mono (Nat.zero_le n)).fr' (.app' _)) R.ps.lt
    (fun q hq => ⟨?_, ?_⟩) (by simp; have := f1_.le; omega) (.new (by have := f1_.le; omega) _) ⟨rfl, fun a h => by omega, fun a h => by omega, fun a h => by omega, fun a b h => by omega, fun a b h => by omega⟩
  · refine Okk.mono key fun r hr => ?_
    obtain ⟨k1, k2, o', ps', k3, k4, k5⟩ := hr
    have fx : Fr_ cs.length cs r.2 := ((f0_.trans f1').trans ((Fr_.app' _).mono (by have := f1_.le; omega))).trans k1
    have up : ∀ t q (ys : List (TT t)), t ≠ 114 → Hd cs.length cs1 q t ys → Hd cs.length r.2 q t ys := fun t q ys ht h => k2 t q ys ht (h.app _)
    have A0 := up _ _ _ (by decide) (a0.fr' f1_)
    have B0 := up _ _ _ (by decide) (b0.fr' f1_)
    have A1 := up _ _ _ (by decide) (a1.mono hl)
    have B1 := up _ _ _ (by decide) (b1.mono hl)
    refine ⟨fx, ⟨V.rt, V.rr, V.st, V.sr, ps', V.sl, V.al⟩, ?_, ?_⟩
    · rw [k3]
      have l5 : ps'.length = V.ps.length := by rw [k5.len, I.np]
      refine ⟨A0, B0, A1, B1, k4, by rw [I.ls, k5.len], by rw [R.la, I.np, k5.len], fun i hi => (k5.sl i (by rw [← k5.len]; exact hi)).z, fun i hi => (k5.al i (by rw [← k5.len]; exact hi)).z, ?_, ?_, fun i j hi hj e => .inr (k5.ds i j (by rw [← k5.len]; exact hi) (by rw [← k5.len]; exact hj) e), fun i j hi hj e => .inr (k5.da i j (by rw [← k5.len]; exact hi) (by rw [← k5.len]; exact hj) e)⟩
      · have := a0.lt; have := a1.1
        simp only; omega
      · have := b0.lt; have := b1.1
        simp only; omega
    · rw [k3]
      exact ⟨rfl, rfl, rfl, rfl, rfl, rfl, by simp only; rw [k5.len, I.np], fun a ha => k5.lv a (by rw [← I.np]; exact ha), rfl⟩
  · rcases R.al q (by rw [I.np]; exact hq) with ⟨e, _⟩ | h
    · omega
    · exact h.lt
  · rcases R.sl q (by rw [I.np]; exact hq) with ⟨e, _⟩ | h
    · omega
    · exact h.lt
end
end Go.Sx
namespace Go.Sx
open Go.RowKit
set_option linter.unusedVariables false
set_option linter.unusedSimpArgs false
section
variable {n : Nat} {m : S89} {V : MV}

/-- l3Free. -/
def Fre (V : MV) (r : Int) : Prop := (r = -1 ∧ ∀ b, b < 5 → (V.p b).f0 = true) ∨ ∃ q : Nat, q < 5 ∧ r = (q : Int) ∧ (V.p q).f0 = false ∧ ∀ b, b < q → (V.p b).f0 = true
theorem ok91 {cs : H} (R : Rep n cs m V) (h5 : V.ps.length = 5) : ∀ (d i k : Nat), i + d = 5 → d < k → (∀ b, b < i → (V.p b).f0 = true) → Okk (run step91 k (J91.j2 (i : Int) cs m.f0 m.f1 m.f2 m.f3 m.f4 m.f5)) (fun r => r.2 = cs ∧ Fre V r.1)
  | d, i, 0, h, hk, hb => by omega
  | 0, i, k + 1, h, hk, hb => by
    obtain rfl : i = 5 := by omega
    rw [run_succ]; simp only [step91, R.ps.okR, R.ps.rdc, cond_true]
    have e : decide (((5 : Nat) : Int) < ((V.ps.length : Nat) : Int)) = false := decide_eq_false (by omega)
    rw [e]; exact .ret ⟨rfl, .inl ⟨rfl, hb⟩⟩
  | d + 1, i, k + 1, h, hk, hb => by
    have e0 : decide ((0 : Int) ≤ (i : Int)) = true := decide_eq_true (by omega)
    have e1 : decide ((i : Int) < ((V.ps.length : Nat) : Int)) = true := decide_eq_true (by omega)
    rw [run_succ]; simp only [step91, R.ps.okA, R.ps.okR, R.ps.rdc, e0, e1, cond_true]
    rw [wsucc (by omega)]
    refine .cnd (fun c => .ret ⟨rfl, .inr ⟨i, by omega, rfl, by simpa [MV.p] using c, hb⟩⟩) fun c => ok91 R h5 d (i + 1) k (by omega) (by omega) fun b h => ?_
    by_cases q : b = i
    · rw [q]; simpa [MV.p] using c
    · exact hb b (by omega)
theorem ok91' (k : Nat) (hk : 100 < k) {cs : H} (R : Rep n cs m V) (h5 : V.ps.length = 5) : Okk (f91 k (cs, m)) (fun r => r.2 = cs ∧ Fre V r.1) := by
  unfold f91 start91
  exact ok91 R h5 5 0 k (by omega) (by omega) fun b h => by omega

/-- l3Who. -/
theorem ok97 (k : Nat) {cs : H} (R : Rep n cs m V) (h5 : V.ps.length = 5) (w : Int) : Okk (f97 k (cs, m, w)) (fun r => r.2 = cs ∧ (r.1 = true → ∃ q : Nat, q < 5 ∧ w = (q : Int) ∧ (V.p q).f0 = true)) := by
  unfold f97 start97
  simp only [R.ps.okA, R.ps.okR, R.ps.rdc, cond_true, ok31, Option.bind_some]
  rw [w64_id (x := ((V.ps.length : Nat) : Int) - 1) (by omega) (by omega)]
  refine .cnd (fun c => ?_) fun _ => .ret ⟨rfl, fun h => by cases h⟩
  rw [Bool.and_eq_true] at c
  have c1 := of_decide_eq_true c.1
  have c2 := of_decide_eq_true c.2
  obtain ⟨q, rfl⟩ : ∃ q : Nat, w = q := ⟨w.toNat, by omega⟩
  (repeat (refine Okk.chk (by omega) ?_))
  exact .ret ⟨rfl, fun h => ⟨q, by omega, rfl, h⟩⟩

/-- l3Shared. -/
theorem ok89 (k : Nat) (hk : 2000 < k) {cs : H} {x : S114} {xs : List S76} (a : Hz n cs x.f1 76 xs) (hs : xs.length ≤ 1000) (page : Int) : Okk (f89 k (cs, x, page)) (fun r => r.2 = cs) := by
  unfold f89 start89
  refine .bnd (ok76' k hk a hs page) fun r h => ?_
  obtain ⟨r1, r2⟩ := r
  obtain ⟨e, h⟩ := h
  simp only at e h ⊢
  subst e
  refine .cnd (fun c => ?_) fun _ => .ret rfl
  have c : 0 ≤ r1 := by simpa using c
  have h2 := (h.resolve_left (by omega)).2
  simp only [a.okA, a.rdc, cond_true]
  (repeat (refine Okk.chk (by omega) ?_))
  exact .ret rfl

/-- Changing the areas of a space. -/
theorem Inv.areas (I : Inv m V) {i : Nat} (hi : i < 5) {x : S114} (h0 : x.f0 = (V.p i).f0) {a : List S76} (ha : a.length ≤ 6) : Inv m ⟨V.rt, V.rr, V.st, V.sr, V.ps.set i x, V.sl.set i (V.s i), V.al.set i a⟩ := by
  have hl : i < V.sl.length := by rw [I.ls]; exact hi
  have es : V.sl.set i (V.s i) = V.sl := by
    have : V.s i = V.sl[i] := by simp [MV.s, hl]
    rw [this]; exact List.set_getElem_self hl
  have ep : ∀ j : Nat, (⟨V.rt, V.rr, V.st, V.sr, V.ps.set i x, V.sl, V.al.set i a⟩ : MV).p j = if j = i then x else V.p j := fun j => MV.p_set (by rw [I.np]; exact hi)
  rw [es]
  refine ⟨I.nt, I.nr, I.mt, I.mr, by simp only [List.length_set]; exact I.np, I.ls, fun j hj h => I.live j hj ?_, fun j hj h => I.dead j hj ?_, fun j hj => ?_, I.t1, I.t2, I.x1, I.x2, I.rng, I.hd⟩
  · rw [ep] at h
    split at h
    · rename_i c; rw [c, ← h0]; exact h
    · exact h
  · rw [ep] at h
    split at h
    · rename_i c; rw [c, ← h0]; exact h
    · exact h
  · show ((V.al.set i a).getD j []).length ≤ 6
    by_cases c : i < V.al.length
    · rw [getD_set c]
      split
      · exact ha
      · exact I.al j hj
    · rw [List.set_eq_of_length_le (by omega)]; exact I.al j hj
theorem Rep.areas {cs cs' : H} (R : Rep n cs m V) (f : Fr_ cs.length cs cs') {i : Nat} (hi : i < V.ps.length) {h : Nat} {a : List S76} (b : Hd cs.length cs' h 76 a) :
    Rep n (setc cs' m.f4 (.arr 114 (V.ps.set i ⟨(V.p i).f0, h, (V.p i).f2⟩))) m ⟨V.rt, V.rr, V.st, V.sr, V.ps.set i ⟨(V.p i).f0, h, (V.p i).f2⟩, V.sl.set i (V.s i), V.al.set i a⟩ := by
  have R' := R.fr' f
  refine R'.setP hi _ (R'.sl i hi) (b.mono R.lt).z (fun j hj hn e => ?_) fun j hj hn e => ?_
  · exact (R.ds i j hi hj e).resolve_right (Ne.symm hn)
  · rcases R.al j hj with ⟨z, _⟩ | q
    · rw [e]; exact z
    · have h1 := q.lt
      have h2 := b.1
      simp only at e
      omega

/-- l3Map. -/
theorem ok69 (k : Nat) (hk : 3000 < k) {cs : H} (R : Rep n cs m V) (I : Inv m V) {i : Nat} (hi : i < 5) (x : S76) :
    Okk (f69 k (cs, m, (i : Int), x)) (fun r => Fr_ n cs r.2 ∧ r.1.1 = m ∧ ∃ V', Rep n r.2 m V' ∧ Inv m V' ∧ ∀ q, q < 5 → (V'.p q).f0 = (V.p q).f0) := by
  have hi' : i < V.ps.length := by rw [I.np]; exact hi
  have e0 : decide ((0 : Int) ≤ (i : Int)) = true := decide_eq_true (by omega)
  have e1 : decide ((i : Int) < ((V.ps.length : Nat) : Int)) = true := decide_eq_true (by omega)
  unfold f69 start69
  simp only [R.ps.okA, R.ps.rdc, e0, e1, cond_true]
  have ha := R.al i hi'
  refine .bnd (ok94 k hk (ha := (rd114 V.ps (i : Int)).f1) (ha.mono (Nat.zero_le n)) (by have := I.al i hi; omega) x) fun r h => ?_
  obtain ⟨⟨o, b⟩, cs1⟩ := r
  obtain ⟨f1_, zs, hz, hl⟩ := h
  simp only at f1_ hz ⊢
  have R1 := R.fr' f1_
  refine .cnd (fun _ => .ret ⟨f1_.mono R.lt, rfl, V, R1, I, fun _ _ => rfl⟩) fun _ => ?_
  simp only [R1.ps.okA, R1.ps.rdc, e0, e1, cond_true, setc2, Int.toNat_natCast]
  exact .ret ⟨(f1_.mono R.lt).trans (R1.frPS _), rfl, _, R.areas f1_ hi' hz, I.areas hi (x := ⟨(V.p i).f0, o, (V.p i).f2⟩) rfl hl, fun q hq => by
    rw [show (⟨V.rt, V.rr, V.st, V.sr, V.ps.set i ⟨(V.p i).f0, o, (V.p i).f2⟩, V.sl.set i (V.s i), V.al.set i zs⟩ : MV).p q = if q = i then ⟨(V.p i).f0, o, (V.p i).f2⟩ else V.p q from MV.p_set hi']
    split
    · rename_i c; rw [c]
    · rfl⟩

/-- l3Cut. -/
theorem ok99 (K : Nat) (hK : 100 < K) {i : Nat} (hi : i < 5) (u v : Int) (hu : 0 ≤ u) (huv : u + v ≤ 16) (hv : 1 ≤ v) (z : Int) : ∀ (d : Nat) (p : Nat) (k : Nat) (cs : H) (V : MV), (p : Int) + d = u + v → d < k → Rep n cs m V → Inv m V → (V.s i).length = 16 →
    Okk (run (step99 (f114 K) (f115 K)) k (J99.j6 (i : Int) u v (p : Int) cs m.f0 m.f1 m.f2 m.f3 m.f4 m.f5 z)) (fun r => Fr_ n cs r.2 ∧ r.1.1 = m ∧ ∃ V', Rep n r.2 m V' ∧ Inv m V')
  | d, p, 0, cs, V, h, hk, R, I, hl => by omega
  | 0, p, k + 1, cs, V, h, hk, R, I, hl => by
    rw [run_succ]; simp only [step99]
    rw [w64_id (x := u + v) (by omega) (by omega)]
    have e : decide ((p : Int) < u + v) = false := decide_eq_false (by omega)
    rw [e]
    exact .ret ⟨.refl _ _, rfl, V, R, I⟩
  | d + 1, p, k + 1, cs, V, h, hk, R, I, hl => by
    rw [run_succ]; simp only [step99]
    rw [w64_id (x := u + v) (by omega) (by omega)]
    have e : decide ((p : Int) < u + v) = true := decide_eq_true (by omega)
    rw [e, cond_true]
    refine .bnd (ok115 K R I hi (j := p) (by omega)) fun r hr => ?_
    obtain ⟨m1, cs1⟩ := r
    obtain ⟨f1_, em, V1, R1, I1, L1⟩ := hr
    simp only at f1_ em R1 ⊢
    have em := em.symm
    subst em
    rw [wsucc (by omega)]
    exact (ok99 K hK hi u v hu huv hv z d (p + 1) k cs1 V1 (by omega) (by omega) R1 I1 (by rw [L1.len]; exact hl)).mono fun r hr => ⟨f1_.trans hr.1, hr.2⟩
theorem ok99' (k : Nat) (hk : 3000 < k) {cs : H} (R : Rep n cs m V) (I : Inv m V) {i : Nat} (hi : i < 5) (hlv : (V.p i).f0 = true) (u v : Int) :
    Okk (f99 k (cs, m, (i : Int), u, v)) (fun r => Fr_ n cs r.2 ∧ r.1.1 = m ∧ ∃ V', Rep n r.2 m V' ∧ Inv m V') := by
  have hi' : i < V.ps.length := by rw [I.np]; exact hi
  have e0 : decide ((0 : Int) ≤ (i : Int)) = true := decide_eq_true (by omega)
  have e1 : decide ((i : Int) < ((V.ps.length : Nat) : Int)) = true := decide_eq_true (by omega)
  unfold f99 start99
  simp only [R.ps.okA, R.ps.rdc, e0, e1, cond_true]
  have ha := R.al i hi'
  refine .bnd (ok114 k hk (ha := (rd114 V.ps (i : Int)).f1) (ha.mono (Nat.zero_le n)) (by have := I.al i hi; omega) u v) fun r h => ?_
  obtain ⟨⟨o, b⟩, cs1⟩ := r
  obtain ⟨f1_, ⟨zs, hz, hl⟩, hb⟩ := h
  simp only at f1_ hz hb ⊢
  have R1 := R.fr' f1_
  refine .cnd (fun _ => .ret ⟨f1_.mono R.lt, rfl, V, R1, I⟩) fun c => ?_
  obtain ⟨u0, u1, u2⟩ := hb (by simpa using c)
  simp only [R1.ps.okA, R1.ps.rdc, e0, e1, cond_true, setc2, Int.toNat_natCast]
  obtain ⟨p, rfl⟩ : ∃ p : Nat, u = p := ⟨u.toNat, by omega⟩
  have I2 := I.areas (m := m) hi (x := ⟨(V.p i).f0, o, (V.p i).f2⟩) rfl hl
  refine (ok99 k (by omega) hi (p : Int) v u0 u2 u1 0 v.toNat p k _ _ (by omega) (by omega) (R.areas f1_ hi' hz) I2 (by
    rw [show (⟨V.rt, V.rr, V.st, V.sr, V.ps.set i ⟨(V.p i).f0, o, (V.p i).f2⟩, V.sl.set i (V.s i), V.al.set i zs⟩ : MV).s i = V.s i from (getD_set (by rw [I.ls]; exact hi)).trans (if_pos rfl)]
    exact I.live i hi hlv)).mono fun r hr => ⟨((f1_.mono R.lt).trans (R1.frPS _)).trans hr.1, hr.2⟩

/-- l3Drop. -/
theorem ok100 (K : Nat) (hK : 100 < K) {i : Nat} (hi : i < 5) (z : Int) : ∀ (d p k : Nat) (cs : H) (V : MV), p + d = 16 → d < k → Rep n cs m V → Inv m V → (V.s i).length = 16 → (∀ b : Nat, b < p → rd116 (V.s i) (b : Int) = ⟨0, 0, false, false⟩) →
    Okk (run (step100 (f115 K)) k (J100.j2 (i : Int) (p : Int) cs m.f0 m.f1 m.f2 m.f3 m.f4 m.f5 z)) (fun r => Fr_ n cs r.2 ∧ r.1 = m ∧ ∃ V', Rep n r.2 m V' ∧ Inv m V')
  | d, p, 0, cs, V, h, hk, R, I, hl, hz => by omega
  | 0, p, k + 1, cs, V, h, hk, R, I, hl, hz => by
    have hi' : i < V.ps.length := by rw [I.np]; exact hi
    have e0 : decide ((0 : Int) ≤ (i : Int)) = true := decide_eq_true (by omega)
    have e1 : decide ((i : Int) < ((V.ps.length : Nat) : Int)) = true := decide_eq_true (by omega)
    have e : decide ((p : Int) < 16) = false := decide_eq_false (by omega)
    rw [run_succ]; simp only [step100, e, cond_false, R.ps.okA, R.ps.rdc, e0, e1, cond_true, setc2, Int.toNat_natCast]
    have hsl : i < V.sl.length := by rw [I.ls]; exact hi
    have zc : ∀ k a : Int, k ≠ 0 → cn k a (V.s i) = 0 := fun k a hk => List.countP_eq_zero.2 fun x hx => by
      obtain ⟨q, hq, rfl⟩ := List.mem_iff_getElem.1 hx
      have := hz q (by omega)
      rw [rd116_at hq] at this
      rw [this, tel_ne (by simp; omega)]; decide
    have ct : ∀ k a : Int, k ≠ 0 → cnt k a (V.sl.set i []) = cnt k a V.sl := fun k a hk => by
      have h1 := cnt_set k a V.sl i [] hsl
      have h2 : V.sl.getD i [] = V.s i := rfl
      rw [h2, zc k a hk] at h1
      have h3 : cn k a [] = 0 := rfl
      omega
    have es : ∀ j : Nat, (⟨V.rt, V.rr, V.st, V.sr, V.ps.set i ⟨false, 0, 0⟩, V.sl.set i [], V.al.set i []⟩ : MV).s j = if j = i then [] else V.s j := fun j => getD_set hsl
    have ep : ∀ j : Nat, (⟨V.rt, V.rr, V.st, V.sr, V.ps.set i ⟨false, 0, 0⟩, V.sl.set i [], V.al.set i []⟩ : MV).p j = if j = i then ⟨false, 0, 0⟩ else V.p j := fun j => MV.p_set hi'
    refine .ret ⟨R.frPS _, rfl, _, R.setP hi' ⟨false, 0, 0⟩ (s := []) (a := []) (.inl ⟨rfl, rfl⟩) (.inl ⟨rfl, rfl⟩) (fun _ _ _ _ => rfl) (fun _ _ _ _ => rfl), ⟨I.nt, I.nr, I.mt, I.mr, by simp only [List.length_set]; exact I.np, by simp only [List.length_set]; exact I.ls, fun j hj h => ?_, fun j hj h => ?_, fun j hj => ?_, fun a ha => ?_, fun a ha => ?_, I.x1, I.x2, fun s hs x hx => ?_, I.hd⟩⟩
    · rw [ep] at h
      rw [es]
      split at h
      · cases h
      · rename_i c; rw [if_neg c]; exact I.live j hj h
    · rw [ep] at h
      rw [es]
      split
      · rfl
      · rename_i c; rw [if_neg c] at h; exact I.dead j hj h
    · show ((V.al.set i []).getD j []).length ≤ 6
      by_cases c : i < V.al.length
      · rw [getD_set c]
        split
        · simp
        · exact I.al j hj
      · rw [List.set_eq_of_length_le (by omega)]; exact I.al j hj
    · rw [ct 1 a (by decide)]; exact I.t1 a ha
    · rw [ct 2 a (by decide)]; exact I.t2 a ha
    · rcases List.mem_or_eq_of_mem_set hs with h | rfl
      · exact I.rng s h x hx
      · simp at hx
  | d + 1, p, k + 1, cs, V, h, hk, R, I, hl, hz => by
    have e : decide ((p : Int) < 16) = true := decide_eq_true (by omega)
    rw [run_succ]; simp only [step100, e, cond_true]
    refine .bnd (ok115 K R I hi (j := p) (by omega)) fun r hr => ?_
    obtain ⟨m1, cs1⟩ := r
    obtain ⟨f1_, em, V1, R1, I1, L1⟩ := hr
    simp only at f1_ em R1 ⊢
    have em := em.symm
    subst em
    rw [wsucc (by omega)]
    refine (ok100 K hK hi z d (p + 1) k cs1 V1 (by omega) (by omega) R1 I1 (by rw [L1.len]; exact hl) (fun b hb => ?_)).mono fun r hr => ⟨f1_.trans hr.1, hr.2⟩
    by_cases c : b = p
    · rw [c]; exact L1.zero
    · rw [L1.els b (by omega) c]; exact hz b (by omega)
theorem ok100' (k : Nat) (hk : 3000 < k) {cs : H} (R : Rep n cs m V) (I : Inv m V) {i : Nat} (hi : i < 5) (hlv : (V.p i).f0 = true) : Okk (f100 k (cs, m, (i : Int))) (fun r => Fr_ n cs r.2 ∧ r.1 = m ∧ ∃ V', Rep n r.2 m V' ∧ Inv m V') := by
  unfold f100 start100
  exact ok100 k (by omega) hi 0 16 0 k cs V (by omega) (by omega) R I (I.live i hi hlv) (fun b h => by omega)

theorem div4 {a : Int} (h0 : 0 ≤ a) (h1 : a < 64) : ∃ j : Nat, w64 (Int.tdiv a 4) = (j : Int) ∧ j < 16 ∧ 0 ≤ Int.tmod a 4 ∧ Int.tmod a 4 < 4 := by
  rw [Int.tdiv_eq_ediv_of_nonneg h0, Int.tmod_eq_emod_of_nonneg h0]
  exact ⟨(a / 4).toNat, by rw [w64_id (by omega) (by omega)]; omega, by omega, by omega, by omega⟩

/-- l3Get. -/
theorem ok101 (k : Nat) (hk : 3000 < k) {cs : H} (R : Rep n cs m V) (I : Inv m V) {i : Nat} (hi : i < 5) (hlv : (V.p i).f0 = true) (ad : Int) (h0 : 0 ≤ ad) (h1 : ad < 64) :
    Okk (f101 k (cs, m, (i : Int), ad)) (fun r => Fr_ n cs r.2 ∧ ∃ V', Rep n r.2 r.1.1 V' ∧ Inv r.1.1 V') := by
  have hi' : i < V.ps.length := by rw [I.np]; exact hi
  have e0 : decide ((0 : Int) ≤ (i : Int)) = true := decide_eq_true (by omega)
  have e1 : decide ((i : Int) < ((V.ps.length : Nat) : Int)) = true := decide_eq_true (by omega)
  obtain ⟨j, ej, hj, m0, m1⟩ := div4 h0 h1
  have l16 := I.live i hi hlv
  unfold f101 start101
  simp only [R.ps.okA, R.ps.rdc, e0, e1, cond_true, ej]
  refine .bnd (ok76' k (by omega) (R.al i hi') (by have := I.al i hi; omega) (j : Int)) fun r h => ?_
  obtain ⟨at_, cs1⟩ := r
  obtain ⟨e, h⟩ := h
  simp only at e h ⊢
  subst e
  refine .cnd (fun _ => .ret ⟨.refl _ _, V, R, I⟩) fun _ => ?_
  refine .bnd (ok92' k (by omega) R I) fun r h => ?_
  obtain ⟨m2, cs2⟩ := r
  obtain ⟨f2_, V2, R2, C2⟩ := h
  simp only at f2_ R2 C2 ⊢
  have I2 := I.copy C2
  have s2 : V2.s i = V.s i := by unfold MV.s; rw [C2.sl]
  refine .bnd (ok95 k (by omega) R2 I2 hi (j := j) (by rw [s2, l16]; omega)) fun r h => ?_
  obtain ⟨⟨m3, b3⟩, cs3⟩ := r
  obtain ⟨f3_, h⟩ := h
  simp only at f3_ h ⊢
  have ff := f2_.trans f3_
  refine .cnd (fun _ => .ret ⟨ff.mono R.lt, V, R.fr' ff, I⟩) fun c => ?_
  obtain ⟨V3, R3, I3, B3⟩ := h (by simpa using c)
  have hi3 : i < V3.ps.length := by rw [I3.np]; exact hi
  have l3 : (V3.s i).length = 16 := by rw [B3.len, s2, l16]
  have e3 : decide ((i : Int) < ((V3.ps.length : Nat) : Int)) = true := decide_eq_true (by omega)
  have e4 : decide ((0 : Int) ≤ (j : Int)) = true := decide_eq_true (by omega)
  have e5 : decide ((j : Int) < (((V3.s i).length : Nat) : Int)) = true := decide_eq_true (by omega)
  obtain ⟨o0, o1⟩ := R3.so hi3
  have hj3 : j < (V3.s i).length := by omega
  obtain ⟨_, g0, g1⟩ := (I3.at_ hj3).resolve_left (by rw [B3.fr]; decide)
  obtain ⟨b, eb⟩ : ∃ b : Nat, (rd116 (V3.s i) (j : Int)).f1 = b := ⟨(rd116 (V3.s i) (j : Int)).f1.toNat, by omega⟩
  have hb : b < 12 := by omega
  have ub := I3.u1 hj3 B3.fr hb eb
  have zb := I3.x1 b hb (by omega)
  have d0 : decide ((0 : Int) ≤ (b : Int)) = true := decide_eq_true (by omega)
  have d1 : decide ((b : Int) < ((V3.rt.length : Nat) : Int)) = true := decide_eq_true (by rw [I3.nt]; omega)
  simp only [R3.ps.okA, R3.ps.rdc, R3.rt.okA, R3.rt.rdc, o0, o1, e0, e3, e4, e5, eb, d0, d1, cond_true, zb]
  (repeat (refine Okk.chk (by omega) ?_))
  exact .ret ⟨ff.mono R.lt, V3, R3.mono R.lt, I3⟩

/-- A frame's text is set. -/
theorem Inv.text (I : Inv m V) {b : Nat} (hb : b < 12) {z : ByteArray} (hz : z.size = 4) : Inv m { V with rt := V.rt.set b z } := by
  refine ⟨by simp only [List.length_set]; exact I.nt, I.nr, I.mt, I.mr, I.np, I.ls, I.live, I.dead, I.al, I.t1, I.t2, fun a ha h => ?_, I.x2, I.rng, I.hd⟩
  show (rd9 (V.rt.set b z) (a : Int)).size = 4
  rw [rd9_set (by rw [I.nt]; exact hb) (by omega)]
  split
  · exact hz
  · exact I.x1 a ha h

/-- l3Set. -/
theorem ok70 (k : Nat) (hk : 3000 < k) {cs : H} (R : Rep n cs m V) (I : Inv m V) {i : Nat} (hi : i < 5) (hlv : (V.p i).f0 = true) (ad v : Int) (h0 : 0 ≤ ad) (h1 : ad < 64) :
    Okk (f70 k (cs, m, (i : Int), ad, v)) (fun r => Fr_ n cs r.2 ∧ ∃ V', Rep n r.2 r.1.1 V' ∧ Inv r.1.1 V' ∧ ∀ q, q < 5 → (V'.p q).f0 = (V.p q).f0) := by
  have hi' : i < V.ps.length := by rw [I.np]; exact hi
  have e0 : decide ((0 : Int) ≤ (i : Int)) = true := decide_eq_true (by omega)
  have e1 : decide ((i : Int) < ((V.ps.length : Nat) : Int)) = true := decide_eq_true (by omega)
  obtain ⟨j, ej, hj, m0, m1⟩ := div4 h0 h1
  have l16 := I.live i hi hlv
  have ha := R.al i hi'
  have a0 : okA 76 cs (rd114 V.ps (i : Int)).f1 = true := ha.okA
  have a1 : rdc 76 cs (rd114 V.ps (i : Int)).f1 = V.a i := ha.rdc
  unfold f70 start70
  simp only [R.ps.okA, R.ps.rdc, e0, e1, cond_true, ej]
  refine .bnd (ok76' k (by omega) ha (by have := I.al i hi; omega) (j : Int)) fun r h => ?_
  obtain ⟨at_, cs1⟩ := r
  obtain ⟨e, h⟩ := h
  simp only at e h ⊢
  subst e
  refine .cnd (fun _ => .ret ⟨.refl _ _, V, R, I, fun _ _ => rfl⟩) fun c => ?_
  have c : ¬ (at_ < 0) := by simpa using c
  have h2 := (h.resolve_left (by omega))
  have d5 : decide ((0 : Int) ≤ at_) = true := decide_eq_true h2.1
  have d6 : decide (at_ < (((V.a i).length : Nat) : Int)) = true := decide_eq_true h2.2
  simp only [R.ps.okA, R.ps.rdc, e0, e1, a0, a1, d5, d6, cond_true]
  refine .cnd (fun _ => .ret ⟨.refl _ _, V, R, I, fun _ _ => rfl⟩) fun _ => ?_
  refine .bnd (ok92' k (by omega) R I) fun r h => ?_
  obtain ⟨m2, cs2⟩ := r
  obtain ⟨f2_, V2, R2, C2⟩ := h
  simp only at f2_ R2 C2 ⊢
  have I2 := I.copy C2
  have s2 : V2.s i = V.s i := by unfold MV.s; rw [C2.sl]
  refine .bnd (ok95 k (by omega) R2 I2 hi (j := j) (by rw [s2, l16]; omega)) fun r h => ?_
  obtain ⟨⟨m3, b3⟩, cs3⟩ := r
  obtain ⟨f3_, h⟩ := h
  simp only at f3_ h ⊢
  have ff := f2_.trans f3_
  obtain ⟨k', ek⟩ : ∃ q, k = q + 1 := ⟨k - 1, by omega⟩
  have rk : ∀ p, run (step70 (f76 k) (f77 k) (f92 k) (f95 k) (f96 k)) k p = step70 (f76 k) (f77 k) (f92 k) (f95 k) (f96 k) (run (step70 (f76 k) (f77 k) (f92 k) (f95 k) (f96 k)) k') p := fun p => by
    rw [show run (step70 (f76 k) (f77 k) (f92 k) (f95 k) (f96 k)) k p = run (step70 (f76 k) (f77 k) (f92 k) (f95 k) (f96 k)) (k' + 1) p from by rw [← ek], run_succ]
  refine .cnd (fun c3 => ?_) fun c3 => ?_
  · obtain ⟨V3, R3, I3, B3⟩ := h c3
    have l3 : (V3.s i).length = 16 := by rw [B3.len, s2, l16]
    refine .bnd (ok96 k (by omega) R3 I3 hi (j := j) (by omega) B3.fr) fun r h => ?_
    obtain ⟨⟨m4, b4⟩, cs4⟩ := r
    obtain ⟨f4_, h⟩ := h
    simp only at f4_ h ⊢
    have f5 := ff.trans f4_
    rw [rk]
    simp only [step70]
    refine .cnd (fun _ => .ret ⟨f5.mono R.lt, V, R.fr' f5, I, fun _ _ => rfl⟩) fun c => ?_
    obtain ⟨V4, R4, I4, B4⟩ := h (by simpa using c)
    have hi4 : i < V4.ps.length := by rw [I4.np]; exact hi
    have l4 : (V4.s i).length = 16 := by rw [B4.len, l3]
    have e3 : decide ((i : Int) < ((V4.ps.length : Nat) : Int)) = true := decide_eq_true (by omega)
    have e4 : decide ((0 : Int) ≤ (j : Int)) = true := decide_eq_true (by omega)
    have e5 : decide ((j : Int) < (((V4.s i).length : Nat) : Int)) = true := decide_eq_true (by omega)
    obtain ⟨o0, o1⟩ := R4.so hi4
    have hj4 : j < (V4.s i).length := by omega
    obtain ⟨_, g0, g1⟩ := (I4.at_ hj4).resolve_left (by rw [B4.fr]; decide)
    obtain ⟨b, eb⟩ : ∃ b : Nat, (rd116 (V4.s i) (j : Int)).f1 = b := ⟨(rd116 (V4.s i) (j : Int)).f1.toNat, by omega⟩
    have hb : b < 12 := by omega
    have ub := I4.u1 hj4 B4.fr hb eb
    have zb := I4.x1 b hb (by omega)
    have d0 : decide ((0 : Int) ≤ (b : Int)) = true := decide_eq_true (by omega)
    have d1 : decide ((b : Int) < ((V4.rt.length : Nat) : Int)) = true := decide_eq_true (by rw [I4.nt]; omega)
    simp only [R4.ps.okA, R4.ps.rdc, R4.rt.okA, R4.rt.rdc, o0, o1, e0, e3, e4, e5, eb, d0, d1, cond_true]
    refine .bnd (ok77 k _ _ _ zb m0 m1) fun z hz => ?_
    simp only [setc2, Int.toNat_natCast]
    refine .ret ⟨(f5.trans (R4.frRT _ |>.mono (Nat.le_refl _))).mono R.lt, _, (R4.setRT _).mono R.lt, I4.text hb hz, fun q hq => ?_⟩
    show (V4.p q).f0 = _
    have : V4.ps = V2.ps := B4.ps.trans B3.ps
    rw [← C2.lv q (by rw [I.np]; exact hq)]
    unfold MV.p; rw [this]
  · rw [rk]
    simp only [step70]
    refine .cnd (fun _ => .ret ⟨ff.mono R.lt, V, R.fr' ff, I, fun _ _ => rfl⟩) fun c => ?_
    rw [c3] at c; cases c
end
end Go.Sx
namespace Go.Sx
open Go.RowKit
set_option linter.unusedVariables false
set_option linter.unusedSimpArgs false

/-! ### a fork -/
def plus (V : MV) (t : Nat) (L : List S76) : MV := ⟨V.rt, V.rr, V.st, V.sr, V.ps.set t ⟨true, 0, 0⟩, V.sl.set t L, V.al⟩
section
variable {n : Nat} {m : S89} {V : MV} {t i : Nat} {L : List S76}
theorem plus_s (ht : t < V.sl.length) (j : Nat) : (plus V t L).s j = if j = t then L else V.s j := getD_set ht
theorem plus_p (ht : t < V.ps.length) (j : Nat) : (plus V t L).p j = if j = t then ⟨true, 0, 0⟩ else V.p j := MV.p_set ht
theorem cn_ext {k a : Int} {s s' : List S76} (hl : s.length = s'.length) (h : ∀ b : Nat, b < s.length → (rd116 s (b : Int)).f0 = (rd116 s' (b : Int)).f0 ∧ (rd116 s (b : Int)).f1 = (rd116 s' (b : Int)).f1) : cn k a s = cn k a s' := by
  have e : s.map (tel k a) = s'.map (tel k a) := by
    refine List.ext_getElem (by simpa using hl) fun b h1 h2 => ?_
    have hb : b < s.length := by simpa using h1
    have hb' : b < s'.length := by omega
    obtain ⟨x, y⟩ := h b hb
    rw [rd116_at hb, rd116_at hb'] at x y
    simp only [List.getElem_map, tel, x, y]
  have c : ∀ s : List S76, cn k a s = (s.map (tel k a)).countP id := fun s => by
    simp only [cn, List.countP_map]
    rfl
  rw [c, c, e]
structure FK (V : MV) (i t p : Nat) (L : List S76) : Prop where
  len : L.length = 16
  liv : (V.p i).f0 = true
  ded : (V.p t).f0 = false
  emp : V.s t = []
  same : ∀ b : Nat, b < p → (rd116 L (b : Int)).f0 = (rd116 (V.s i) (b : Int)).f0 ∧ (rd116 L (b : Int)).f1 = (rd116 (V.s i) (b : Int)).f1
  rest : ∀ b : Nat, p ≤ b → b < 16 → rd116 L (b : Int) = ⟨0, 0, false, false⟩
theorem FK.ne {p : Nat} (F : FK V i t p L) : i ≠ t := fun e => by
  have h1 := F.liv
  have h2 := F.ded
  rw [e, h2] at h1; cases h1
theorem cnt_upd {k a : Int} {LL : List (List S76)} {t : Nat} {s s' : List S76} (ht : t < LL.length) (h : cn k a s = cn k a s') : cnt k a (LL.set t s) = cnt k a (LL.set t s') := by
  have h1 := cnt_set k a LL t s ht
  have h2 := cnt_set k a LL t s' ht
  omega
theorem Inv.plus0 (I : Inv m V) (ht : t < 5) (hd : (V.p t).f0 = false) : Inv m (plus V t (List.replicate 16 ⟨0, 0, false, false⟩)) := by
  have hs := I.dead t ht hd
  have htl : t < V.sl.length := by rw [I.ls]; exact ht
  have htp : t < V.ps.length := by rw [I.np]; exact ht
  have ct : ∀ k a : Int, k ≠ 0 → cnt k a (V.sl.set t (List.replicate 16 ⟨0, 0, false, false⟩)) = cnt k a V.sl := fun k a hk => by
    have h1 := cnt_set k a V.sl t (List.replicate 16 ⟨0, 0, false, false⟩) htl
    have h2 : V.sl.getD t [] = V.s t := rfl
    have h3 : cn k a (List.replicate 16 ⟨0, 0, false, false⟩) = 0 := List.countP_eq_zero.2 fun x hx => by
      rw [List.eq_of_mem_replicate hx, tel_ne (by simp; omega)]; decide
    have h4 : cn k a [] = 0 := rfl
    rw [h2, hs, h4, h3] at h1
    omega
  refine ⟨I.nt, I.nr, I.mt, I.mr, by simp only [plus, List.length_set]; exact I.np, by simp only [plus, List.length_set]; exact I.ls, fun j hj h => ?_, fun j hj h => ?_, I.al, fun a ha => ?_, fun a ha => ?_, I.x1, I.x2, fun s hs x hx => ?_, I.hd⟩
  · rw [plus_p htp] at h
    rw [plus_s htl]
    split
    · simp
    · rename_i c; rw [if_neg c] at h; exact I.live j hj h
  · rw [plus_p htp] at h
    rw [plus_s htl]
    split at h
    · cases h
    · rename_i c; rw [if_neg c]; exact I.dead j hj h
  · show ((cnt 1 a (V.sl.set t _) : Nat) : Int) = _
    rw [ct 1 a (by decide)]; exact I.t1 a ha
  · show ((cnt 2 a (V.sl.set t _) : Nat) : Int) = _
    rw [ct 2 a (by decide)]; exact I.t2 a ha
  · rcases List.mem_or_eq_of_mem_set hs with h | rfl
    · exact I.rng s h x hx
    · rw [List.eq_of_mem_replicate hx]; exact .inl rfl
/-- The copy stands. -/
theorem Inv.plusEnd (I : Inv m (plus V t L)) (hi : i < 5) (ht : t < 5) (F : FK V i t 16 L) (hls : V.sl.length = 5) (hla : V.al.length = 5) (hps : V.ps.length = 5) {x : S114} (hx : x.f0 = true) : Inv m ⟨V.rt, V.rr, V.st, V.sr, V.ps.set t x, V.sl.set t (V.s i), V.al.set t (V.a i)⟩ := by
  have htl : t < V.sl.length := by omega
  have htp : t < V.ps.length := by omega
  have l16 : (V.s i).length = 16 := by
    have := I.live i hi (by rw [plus_p htp, if_neg F.ne]; exact F.liv)
    rw [plus_s htl, if_neg F.ne] at this; exact this
  have ce : ∀ k a : Int, cn k a L = cn k a (V.s i) := fun k a => cn_ext (by rw [F.len, l16]) fun b hb => F.same b (by rw [F.len] at hb; exact hb)
  have es : ∀ j : Nat, (⟨V.rt, V.rr, V.st, V.sr, V.ps.set t x, V.sl.set t (V.s i), V.al.set t (V.a i)⟩ : MV).s j = if j = t then V.s i else V.s j := fun j => getD_set htl
  have ep : ∀ j : Nat, (⟨V.rt, V.rr, V.st, V.sr, V.ps.set t x, V.sl.set t (V.s i), V.al.set t (V.a i)⟩ : MV).p j = if j = t then x else V.p j := fun j => MV.p_set htp
  refine ⟨I.nt, I.nr, I.mt, I.mr, by simp only [List.length_set]; exact hps, by simp only [List.length_set]; exact hls, fun j hj h => ?_, fun j hj h => ?_, fun j hj => ?_, fun a ha => ?_, fun a ha => ?_, I.x1, I.x2, fun s hs y hy => ?_, I.hd⟩
  · rw [es]
    split
    · exact l16
    · rename_i c
      rw [ep, if_neg c] at h
      have := I.live j hj (by rw [plus_p htp, if_neg c]; exact h)
      rw [plus_s htl, if_neg c] at this; exact this
  · rw [ep] at h
    rw [es]
    split at h
    · rw [hx] at h; cases h
    · rename_i c
      rw [if_neg c]
      have := I.dead j hj (by rw [plus_p htp, if_neg c]; exact h)
      rw [plus_s htl, if_neg c] at this; exact this
  · show ((V.al.set t (V.a i)).getD j []).length ≤ 6
    rw [getD_set (by omega)]
    split
    · exact I.al i hi
    · exact I.al j hj
  · show ((cnt 1 a (V.sl.set t _) : Nat) : Int) = _
    rw [← cnt_upd htl (ce 1 a)]; exact I.t1 a ha
  · show ((cnt 2 a (V.sl.set t _) : Nat) : Int) = _
    rw [← cnt_upd htl (ce 2 a)]; exact I.t2 a ha
  · rcases List.mem_or_eq_of_mem_set hs with h | rfl
    · obtain ⟨q, hq, rfl⟩ := List.mem_iff_getElem.1 h
      by_cases c : q = t
      · subst c
        have e : V.sl[q] = V.s q := by simp [MV.s, hq]
        rw [e, F.emp] at hy; simp at hy
      · refine I.rng V.sl[q] ?_ y hy
        have : (V.sl.set t L)[q]? = some V.sl[q] := by rw [List.getElem?_set_ne (Ne.symm c)]; simp [hq]
        exact List.mem_of_getElem? this
    · obtain ⟨q, hq, rfl⟩ := List.mem_iff_getElem.1 hy
      have := I.at_ (i := i) (j := q) (by rw [plus_s htl, if_neg F.ne]; exact hq)
      rw [plus_s htl, if_neg F.ne, rd116_at hq] at this
      exact this

theorem fork2 (K : Nat) (hK : 3000 < K) (hi : i < 5) (ht : t < 5) (z : Int) : ∀ (d p k : Nat) (cs : H) (V : MV) (L : List S76), p + d = 16 → 3 * d + 1 ≤ k → Rep n cs m V → Inv m (plus V t L) → FK V i t p L →
    Okk (run (step98 (f89 K) (f91 K) (f95 K)) k (J98.j13 (i : Int) (t : Int) (p : Int) cs m.f0 m.f1 m.f2 m.f3 m.f4 m.f5 z)) (fun r => Fr_ n cs r.2 ∧ r.1.1 = m ∧ ∃ V', Rep n r.2 m V' ∧ Inv m V')
  | 0, p, k, cs, V, L, h, hk, R, I, F => by
    obtain ⟨k, rfl⟩ : ∃ j, k = j + 1 := ⟨k - 1, by omega⟩
    obtain rfl : p = 16 := by omega
    have hps : V.ps.length = 5 := by have := I.np; simpa [plus] using this
    have hls : V.sl.length = 5 := by have := I.ls; simpa [plus] using this
    have hi' : i < V.ps.length := by omega
    have htl : t < V.sl.length := by omega
    have htp : t < V.ps.length := by omega
    have l16 : (V.s i).length = 16 := by
      have := I.live i hi (by rw [plus_p htp, if_neg F.ne]; exact F.liv)
      rw [plus_s htl, if_neg F.ne] at this; exact this
    have la := I.al i hi
    have e0 : decide ((0 : Int) ≤ (i : Int)) = true := decide_eq_true (by omega)
    have e1 : decide ((i : Int) < ((V.ps.length : Nat) : Int)) = true := decide_eq_true (by omega)
    have e2 : decide ((0 : Int) ≤ (t : Int)) = true := decide_eq_true (by omega)
    have e3 : decide ((t : Int) < ((V.ps.length : Nat) : Int)) = true := decide_eq_true (by omega)
    have e : decide (((16 : Nat) : Int) < 16) = false := decide_eq_false (by omega)
    have a0 : okA 76 cs (rd114 V.ps (i : Int)).f1 = true := (R.al i hi').okA
    have a1 : rdc 76 cs (rd114 V.ps (i : Int)).f1 = V.a i := (R.al i hi').rdc
    obtain ⟨o0, o1⟩ := R.so hi'
    have fA : Fr_ cs.length cs ((cs ++ [Cell.arr (T := TT) 76 (V.a i)]) ++ [Cell.arr (T := TT) 116 (V.s i)]) := by rw [List.append_assoc]; exact .app' _
    have R1 := R.fr' fA
    rw [run_succ]; simp only [step98, e, cond_false, R.ps.okA, R.ps.rdc, e0, e1, e2, e3, a0, a1, o0, o1, cond_true, List.nil_append, R1.ps.okA, R1.ps.rdc, setc2, Int.toNat_natCast]
    have la' : (V.a i).length ≤ 6 := la
    refine .chk (by simp only [List.length_nil]; omega) (.chk (by simp only [List.length_nil]; omega) (.ret ?_))
    have A1 : Hd cs.length (cs ++ [Cell.arr (T := TT) 76 (V.a i)]) (cs.length + 1) 76 (V.a i) := .new (Nat.le_refl _) _
    have A2 : Hd cs.length ((cs ++ [Cell.arr (T := TT) 76 (V.a i)]) ++ [Cell.arr (T := TT) 116 (V.s i)]) ((cs ++ [Cell.arr (T := TT) 76 (V.a i)]).length + 1) 116 (V.s i) := .new (by simp) _
    have A1' := A1.app [Cell.arr (T := TT) 116 (V.s i)]
    refine ⟨(fA.mono R.lt).trans (R1.frPS _), rfl, _, R1.setP htp ⟨true, cs.length + 1, (cs ++ [Cell.arr (T := TT) 76 (V.a i)]).length + 1⟩ (A2.mono R.lt).z (A1'.mono R.lt).z (fun j hj hn e => ?_) (fun j hj hn e => ?_), I.plusEnd hi ht F hls (by rw [R.la]; exact hps) hps rfl⟩
    · rcases R.sl j hj with ⟨zz, _⟩ | q
      · rw [e]; exact zz
      · have h1 := q.lt
        have h2 := A2.1
        simp only at e
        omega
    · rcases R.al j hj with ⟨zz, _⟩ | q
      · rw [e]; exact zz
      · have h1 := q.lt
        simp only at e
        omega
  | d + 1, p, k, cs, V, L, h, hk, R, I, F => by
    obtain ⟨k, rfl⟩ : ∃ j, k = j + 3 := ⟨k - 3, by omega⟩
    have hps : V.ps.length = 5 := by have := I.np; simpa [plus] using this
    have hls : V.sl.length = 5 := by have := I.ls; simpa [plus] using this
    have hi' : i < V.ps.length := by omega
    have hil : i < V.sl.length := by omega
    have htl : t < V.sl.length := by omega
    have htp : t < V.ps.length := by omega
    have eS : (plus V t L).s i = V.s i := by rw [plus_s htl, if_neg F.ne]
    have l16 : (V.s i).length = 16 := by
      have := I.live i hi (by rw [plus_p htp, if_neg F.ne]; exact F.liv)
      rw [eS] at this; exact this
    have hp : p < (V.s i).length := by omega
    have e0 : decide ((0 : Int) ≤ (i : Int)) = true := decide_eq_true (by omega)
    have e1 : decide ((i : Int) < ((V.ps.length : Nat) : Int)) = true := decide_eq_true (by omega)
    have e2 : decide ((0 : Int) ≤ (p : Int)) = true := decide_eq_true (by omega)
    have e3 : decide ((p : Int) < (((V.s i).length : Nat) : Int)) = true := decide_eq_true (by omega)
    have e : decide ((p : Int) < 16) = true := decide_eq_true (by omega)
    obtain ⟨o0, o1⟩ := R.so hi'
    have la : (V.a i).length ≤ 6 := I.al i hi
    -- the slot with its flag, and the counts
    have rest : ∀ own : Bool, Okk (run (step98 (f89 K) (f91 K) (f95 K)) (k + 2) (J98.j18 (i : Int) (t : Int) (p : Int) cs m.f0 m.f1 m.f2 m.f3 m.f4 m.f5 z (rd116 (V.s i) (p : Int)).f0 (rd116 (V.s i) (p : Int)).f1 own (rd116 (V.s i) (p : Int)).f3)) (fun r => Fr_ n cs r.2 ∧ r.1.1 = m ∧ ∃ V', Rep n r.2 m V' ∧ Inv m V') := by
      intro own
      have R1 := R.setSl hi' (R.hd hi' (by omega)) ((V.s i).set p ⟨(rd116 (V.s i) (p : Int)).f0, (rd116 (V.s i) (p : Int)).f1, own, (rd116 (V.s i) (p : Int)).f3⟩)
      have f1_ := R.frSl hi' (by omega) (Cell.arr (T := TT) 116 ((V.s i).set p ⟨(rd116 (V.s i) (p : Int)).f0, (rd116 (V.s i) (p : Int)).f1, own, (rd116 (V.s i) (p : Int)).f3⟩))
      have I1 := I.same (i := i) (j := p) hi (by rw [eS]; exact hp) ⟨(rd116 (V.s i) (p : Int)).f0, (rd116 (V.s i) (p : Int)).f1, own, (rd116 (V.s i) (p : Int)).f3⟩ (by rw [eS]) (by rw [eS])
      rw [eS] at I1
      have I1 : Inv m (plus { V with sl := V.sl.set i ((V.s i).set p ⟨(rd116 (V.s i) (p : Int)).f0, (rd116 (V.s i) (p : Int)).f1, own, (rd116 (V.s i) (p : Int)).f3⟩) } t L) := by
        have : (V.sl.set t L).set i ((V.s i).set p ⟨(rd116 (V.s i) (p : Int)).f0, (rd116 (V.s i) (p : Int)).f1, own, (rd116 (V.s i) (p : Int)).f3⟩) = (V.sl.set i ((V.s i).set p ⟨(rd116 (V.s i) (p : Int)).f0, (rd116 (V.s i) (p : Int)).f1, own, (rd116 (V.s i) (p : Int)).f3⟩)).set t L := List.set_comm _ _ (Ne.symm F.ne)
        unfold plus at I1 ⊢
        rw [this] at I1
        exact I1
      generalize hV1 : ({ V with sl := V.sl.set i ((V.s i).set p ⟨(rd116 (V.s i) (p : Int)).f0, (rd116 (V.s i) (p : Int)).f1, own, (rd116 (V.s i) (p : Int)).f3⟩) } : MV) = V1 at R1 I1
      have sv : V1.s i = (V.s i).set p ⟨(rd116 (V.s i) (p : Int)).f0, (rd116 (V.s i) (p : Int)).f1, own, (rd116 (V.s i) (p : Int)).f3⟩ := by rw [← hV1, MV.s_set hil, if_pos rfl]
      have pv : V1.ps = V.ps := by rw [← hV1]
      have rv : V1.rr = V.rr := by rw [← hV1]
      have wv : V1.sr = V.sr := by rw [← hV1]
      have ev : ∀ b : Nat, (rd116 (V1.s i) (b : Int)).f0 = (rd116 (V.s i) (b : Int)).f0 ∧ (rd116 (V1.s i) (b : Int)).f1 = (rd116 (V.s i) (b : Int)).f1 := fun b => by
        rw [sv, rd116_set hp (by omega)]
        split
        · rename_i c; rw [c]; exact ⟨rfl, rfl⟩
        · exact ⟨rfl, rfl⟩
      have F1 : FK V1 i t p L := ⟨F.len, by unfold MV.p; rw [pv]; exact F.liv, by unfold MV.p; rw [pv]; exact F.ded, by rw [← hV1, MV.s_set hil, if_neg (Ne.symm F.ne)]; exact F.emp, fun b hb => by rw [(ev b).1, (ev b).2]; exact F.same b hb, F.rest⟩
      have hls1 : V1.sl.length = 5 := by have := I1.ls; simpa [plus] using this
      have htl1 : t < V1.sl.length := by omega
      have eT : (plus V1 t L).s t = L := by rw [plus_s htl1, if_pos rfl]
      have hpT : p < ((plus V1 t L).s t).length := by rw [eT, F.len]; omega
      have zT : rd116 ((plus V1 t L).s t) (p : Int) = ⟨0, 0, false, false⟩ := by rw [eT]; exact F.rest p (Nat.le_refl _) (by omega)
      have F2 : ∀ y : S76, y.f0 = (rd116 (V.s i) (p : Int)).f0 → y.f1 = (rd116 (V.s i) (p : Int)).f1 → ∀ V2 : MV, V2.ps = V1.ps → V2.sl = V1.sl → FK V2 i t (p + 1) (L.set p y) := fun y y0 y1 V2 h1 h2 => by
        have es : ∀ q, V2.s q = V1.s q := fun q => by unfold MV.s; rw [h2]
        refine ⟨by rw [List.length_set]; exact F.len, by unfold MV.p; rw [h1]; exact F1.liv, by unfold MV.p; rw [h1]; exact F1.ded, by rw [es]; exact F1.emp, fun b hb => ?_, fun b h3 h4 => ?_⟩
        · rw [rd116_set (by rw [F.len]; omega) (by omega), es]
          by_cases c : (b : Int) = (p : Int)
          · rw [if_pos c, c, (ev p).1, (ev p).2]; exact ⟨y0, y1⟩
          · rw [if_neg c]; exact F1.same b (by omega)
        · rw [rd116_set (by rw [F.len]; omega) (by omega), if_neg (by omega)]; exact F.rest b (by omega) h4
      have j14 : ∀ (cs2 : H) (V2 : MV) (L2 : List S76), Rep n cs2 m V2 → Inv m (plus V2 t L2) → FK V2 i t (p + 1) L2 → Okk (run (step98 (f89 K) (f91 K) (f95 K)) (k + 1) (J98.j14 (i : Int) (t : Int) (p : Int) cs2 m.f0 m.f1 m.f2 m.f3 m.f4 m.f5 z)) (fun r => Fr_ n cs2 r.2 ∧ r.1.1 = m ∧ ∃ V', Rep n r.2 m V' ∧ Inv m V') := by
        intro cs2 V2 L2 R2 I2 F2
        rw [run_succ]; simp only [step98]
        rw [wsucc (by omega)]
        exact fork2 K hK hi ht z d (p + 1) k cs2 V2 L2 (by omega) (by omega) R2 I2 F2
      have zz : ∀ kk a : Int, kk ≠ 0 → tel kk a (⟨0, 0, false, false⟩ : S76) = false := fun kk a hk => tel_ne (by simp; omega)
      have Rr := R1.rr
      have Rs := R1.sr
      rw [run_succ]; simp only [step98, R.ps.okA, R.ps.rdc, o0, o1, e0, e1, e2, e3, cond_true, setc2, Int.toNat_natCast]
      rw [rv] at Rr
      rw [wv] at Rs
      have Rr' : Hd n (setc cs (rd114 V.ps (i : Int)).f2 (Cell.arr (T := TT) 116 ((V.s i).set p ⟨(rd116 (V.s i) (p : Int)).f0, (rd116 (V.s i) (p : Int)).f1, own, (rd116 (V.s i) (p : Int)).f3⟩))) m.f1 3 V.rr := Rr
      have Rs' : Hd n (setc cs (rd114 V.ps (i : Int)).f2 (Cell.arr (T := TT) 116 ((V.s i).set p ⟨(rd116 (V.s i) (p : Int)).f0, (rd116 (V.s i) (p : Int)).f1, own, (rd116 (V.s i) (p : Int)).f3⟩))) m.f3 3 V.sr := Rs
      have at1 := I.at_ (i := i) (j := p) (by rw [eS]; exact hp)
      rw [eS] at at1
      refine .cnd (fun c => ?_) fun c => .cnd (fun c' => ?_) fun c' => ?_
      · have c : (rd116 (V.s i) (p : Int)).f0 = 1 := by simpa using c
        obtain ⟨_, g0, g1⟩ := at1.resolve_left (by omega)
        obtain ⟨b, eb⟩ : ∃ b : Nat, (rd116 (V.s i) (p : Int)).f1 = b := ⟨(rd116 (V.s i) (p : Int)).f1.toNat, by omega⟩
        have hb : b < 12 := by omega
        have rb : 0 ≤ rd3 V.rr b ∧ rd3 V.rr b ≤ 80 := I.r1 hb
        have lr : V.rr.length = 12 := I.nr
        have d0 : decide ((0 : Int) ≤ (b : Int)) = true := decide_eq_true (by omega)
        have d1 : decide ((b : Int) < ((V.rr.length : Nat) : Int)) = true := decide_eq_true (by omega)
        rw [eb] at Rr'
        simp only [eb, Rr'.okA, Rr'.rdc, d0, d1, cond_true, setc2, Int.toNat_natCast]
        rw [w64_id (x := rd3 V.rr (b : Int) + 1) (by omega) (by omega)]
        have R2 := R1.setRR (V.rr.set b (rd3 V.rr b + 1))
        have f2_ := R1.frRR (Cell.arr (T := TT) 3 (V.rr.set b (rd3 V.rr b + 1)))
        rw [eb] at R2 f2_ f1_
        have I2 := I1.put ht hpT ⟨1, (b : Int), false, false⟩ (rt := V1.rt) (rr := V.rr.set b (rd3 V.rr b + 1)) (st := V1.st) (sr := V1.sr) I1.nt (by rw [List.length_set]; exact lr) I1.mt I1.mr (fun a ha => by
            have h1 := I1.t1 a ha
            have h2 : rd3 (plus V1 t L).rr (a : Int) = rd3 V.rr a := by show rd3 V1.rr a = _; rw [rv]
            rw [h2] at h1
            rw [zT, zz 1 a (by decide), b2f, h1, rd3_set (by omega) (by omega)]
            by_cases q : (a : Int) = (b : Int)
            · have tt : tel 1 (b : Int) (⟨1, (b : Int), false, false⟩ : S76) = true := tel_iff.2 ⟨rfl, rfl⟩
              rw [if_pos q, q, tt, b2t]; omega
            · rw [if_neg q, tel_ne (by simp only; omega), b2f]) (fun a ha => by
            rw [zT, zz 2 a (by decide), I1.t2 a ha, tel_ne (by simp only; omega)]; rfl) (fun a ha h => by
            rw [rd3_set (by omega) (by omega)] at h
            by_cases q : (a : Int) = (b : Int)
            · have ub := I.u1 (i := i) (j := p) (by rw [eS]; exact hp) (by rw [eS]; exact c) hb (by rw [eS]; exact eb)
              have ub' : 1 ≤ rd3 V.rr b := ub
              refine I1.x1 a ha ?_
              show rd3 V1.rr (a : Int) ≠ 0
              rw [rv, q]; omega
            · rw [if_neg q] at h
              refine I1.x1 a ha ?_
              show rd3 V1.rr (a : Int) ≠ 0
              rw [rv]; exact h) I1.x2 (.inr ⟨.inl rfl, by simp only; omega, by simp only; omega⟩)
        have hE : (⟨V1.rt, V.rr.set b (rd3 V.rr b + 1), V1.st, V1.sr, (plus V1 t L).ps, (plus V1 t L).sl.set t (((plus V1 t L).s t).set p ⟨1, (b : Int), false, false⟩), (plus V1 t L).al⟩ : MV) = plus { V1 with rr := V.rr.set b (rd3 V.rr b + 1) } t (L.set p ⟨1, (b : Int), false, false⟩) := by
          rw [eT]
          unfold plus
          simp only [List.set_set]
        rw [hE] at I2
        refine (j14 _ _ _ R2 I2 (F2 _ c.symm eb.symm _ rfl rfl)).mono fun r hr => ⟨?_, hr.2⟩
        exact (f1_.trans f2_).trans hr.1
      · have c' : (rd116 (V.s i) (p : Int)).f0 = 2 := by simpa using c'
        obtain ⟨_, g0, g1⟩ := at1.resolve_left (by omega)
        obtain ⟨b, eb⟩ : ∃ b : Nat, (rd116 (V.s i) (p : Int)).f1 = b := ⟨(rd116 (V.s i) (p : Int)).f1.toNat, by omega⟩
        have hb : b < 12 := by omega
        have rb : 0 ≤ rd3 V.sr b ∧ rd3 V.sr b ≤ 80 := I.r2 hb
        have lr : V.sr.length = 12 := I.mr
        have d0 : decide ((0 : Int) ≤ (b : Int)) = true := decide_eq_true (by omega)
        have d1 : decide ((b : Int) < ((V.sr.length : Nat) : Int)) = true := decide_eq_true (by omega)
        rw [eb] at Rs'
        simp only [eb, Rs'.okA, Rs'.rdc, d0, d1, cond_true, setc2, Int.toNat_natCast]
        rw [w64_id (x := rd3 V.sr (b : Int) + 1) (by omega) (by omega)]
        have R2 := R1.setSR (V.sr.set b (rd3 V.sr b + 1))
        have f2_ := R1.frSR (Cell.arr (T := TT) 3 (V.sr.set b (rd3 V.sr b + 1)))
        rw [eb] at R2 f2_ f1_
        have I2 := I1.put ht hpT ⟨2, (b : Int), false, false⟩ (rt := V1.rt) (rr := V1.rr) (st := V1.st) (sr := V.sr.set b (rd3 V.sr b + 1)) I1.nt I1.nr I1.mt (by rw [List.length_set]; exact lr) (fun a ha => by
            rw [zT, zz 1 a (by decide), I1.t1 a ha, tel_ne (by simp only; omega)]; rfl) (fun a ha => by
            have h1 := I1.t2 a ha
            have h2 : rd3 (plus V1 t L).sr (a : Int) = rd3 V.sr a := by show rd3 V1.sr a = _; rw [wv]
            rw [h2] at h1
            rw [zT, zz 2 a (by decide), b2f, h1, rd3_set (by omega) (by omega)]
            by_cases q : (a : Int) = (b : Int)
            · have tt : tel 2 (b : Int) (⟨2, (b : Int), false, false⟩ : S76) = true := tel_iff.2 ⟨rfl, rfl⟩
              rw [if_pos q, q, tt, b2t]; omega
            · rw [if_neg q, tel_ne (by simp only; omega), b2f]) I1.x1 (fun a ha h => by
            rw [rd3_set (by omega) (by omega)] at h
            by_cases q : (a : Int) = (b : Int)
            · have ub := I.u2 (i := i) (j := p) (by rw [eS]; exact hp) (by rw [eS]; exact c') hb (by rw [eS]; exact eb)
              have ub' : 1 ≤ rd3 V.sr b := ub
              refine I1.x2 a ha ?_
              show rd3 V1.sr (a : Int) ≠ 0
              rw [wv, q]; omega
            · rw [if_neg q] at h
              refine I1.x2 a ha ?_
              show rd3 V1.sr (a : Int) ≠ 0
              rw [wv]; exact h) (.inr ⟨.inr rfl, by simp only; omega, by simp only; omega⟩)
        have hE : (⟨V1.rt, V1.rr, V1.st, V.sr.set b (rd3 V.sr b + 1), (plus V1 t L).ps, (plus V1 t L).sl.set t (((plus V1 t L).s t).set p ⟨2, (b : Int), false, false⟩), (plus V1 t L).al⟩ : MV) = plus { V1 with sr := V.sr.set b (rd3 V.sr b + 1) } t (L.set p ⟨2, (b : Int), false, false⟩) := by
          rw [eT]
          unfold plus
          simp only [List.set_set]
        rw [hE] at I2
        refine (j14 _ _ _ R2 I2 (F2 _ c'.symm eb.symm _ rfl rfl)).mono fun r hr => ⟨?_, hr.2⟩
        exact (f1_.trans f2_).trans hr.1
      · have c : (rd116 (V.s i) (p : Int)).f0 ≠ 1 := by simpa using c
        have c' : (rd116 (V.s i) (p : Int)).f0 ≠ 2 := by simpa using c'
        have c0 : (rd116 (V.s i) (p : Int)).f0 = 0 := by
          rcases at1 with h | ⟨h | h, _⟩
          · exact h
          · exact absurd h c
          · exact absurd h c'
        have I2 := I1.put ht hpT ⟨0, (rd116 (V.s i) (p : Int)).f1, false, false⟩ I1.nt I1.nr I1.mt I1.mr (fun a ha => by
            rw [zT, zz 1 a (by decide), I1.t1 a ha, tel_ne (by simp only; omega)]) (fun a ha => by
            rw [zT, zz 2 a (by decide), I1.t2 a ha, tel_ne (by simp only; omega)]) I1.x1 I1.x2 (.inl rfl)
        have hE : (⟨(plus V1 t L).rt, (plus V1 t L).rr, (plus V1 t L).st, (plus V1 t L).sr, (plus V1 t L).ps, (plus V1 t L).sl.set t (((plus V1 t L).s t).set p ⟨0, (rd116 (V.s i) (p : Int)).f1, false, false⟩), (plus V1 t L).al⟩ : MV) = plus V1 t (L.set p ⟨0, (rd116 (V.s i) (p : Int)).f1, false, false⟩) := by
          rw [eT]
          unfold plus
          simp only [List.set_set]
        rw [hE] at I2
        exact (j14 _ _ _ R1 I2 (F2 ⟨0, (rd116 (V.s i) (p : Int)).f1, false, false⟩ c0.symm rfl _ rfl rfl)).mono fun r hr => ⟨f1_.trans hr.1, hr.2⟩
    rw [run_succ]; simp only [step98, e, R.ps.okA, R.ps.rdc, o0, o1, e0, e1, e2, e3, cond_true]
    refine .bnd (ok89 K (by omega) (x := rd114 V.ps (i : Int)) (R.al i hi') (by omega) (p : Int)) fun r hr => ?_
    obtain ⟨b, cs1⟩ := r
    simp only at hr ⊢
    subst hr
    exact .cnd (fun _ => rest _) fun _ => rest _

/-- l3Fork. -/
theorem fork1 (K : Nat) (hK : 3000 < K) (hi : i < 5) (ht : t < 5) (f0 f1 f2 f3 f4 : Nat) (z : Int) : ∀ (d p k : Nat) (cs : H) (f5 : Int) (V : MV), p + d = 16 → 3 * d + 60 ≤ k → Rep n cs ⟨f0, f1, f2, f3, f4, f5⟩ V → Inv ⟨f0, f1, f2, f3, f4, f5⟩ V → (V.p i).f0 = true → (V.p t).f0 = false →
    Okk (run (step98 (f89 K) (f91 K) (f95 K)) k (J98.j5 (i : Int) (t : Int) (p : Int) cs f0 f1 f2 f3 f4 f5 z)) (fun r => Fr_ n cs r.2 ∧ (0 ≤ r.1.2 → ∃ V', Rep n r.2 r.1.1 V' ∧ Inv r.1.1 V'))
  | 0, p, k, cs, f5, V, h, hk, R, I, hl, hd => by
    obtain ⟨k, rfl⟩ : ∃ j, k = j + 1 := ⟨k - 1, by omega⟩
    have e : decide ((p : Int) < 16) = false := decide_eq_false (by omega)
    rw [run_succ]; simp only [step98, e, cond_false]
    have F : FK V i t 0 (List.replicate 16 ⟨0, 0, false, false⟩) := ⟨by simp, hl, hd, I.dead t ht hd, fun b h => by omega, fun b h1 h2 => by
      rw [rd116_at (by rw [List.length_replicate]; exact h2), List.getElem_replicate]⟩
    refine (fork2 K hK hi ht z 16 0 k cs V _ (by omega) (by omega) R (I.plus0 ht hd) F).mono fun r hr => ⟨hr.1, fun _ => ?_⟩
    rw [hr.2.1]; exact hr.2.2
  | d + 1, p, k, cs, f5, V, h, hk, R, I, hl, hd => by
    obtain ⟨k, rfl⟩ : ∃ j, k = j + 3 := ⟨k - 3, by omega⟩
    have hi' : i < V.ps.length := by rw [I.np]; exact hi
    have l16 := I.live i hi hl
    have hp : p < (V.s i).length := by omega
    have e0 : decide ((0 : Int) ≤ (i : Int)) = true := decide_eq_true (by omega)
    have e1 : decide ((i : Int) < ((V.ps.length : Nat) : Int)) = true := decide_eq_true (by omega)
    have e2 : decide ((0 : Int) ≤ (p : Int)) = true := decide_eq_true (by omega)
    have e3 : decide ((p : Int) < (((V.s i).length : Nat) : Int)) = true := decide_eq_true (by omega)
    have e : decide ((p : Int) < 16) = true := decide_eq_true (by omega)
    obtain ⟨o0, o1⟩ := R.so hi'
    have ps := R.ps
    simp only at ps
    have j6 : ∀ (k : Nat) (cs : H) (f5 : Int) (V : MV), 3 * d + 61 ≤ k → Rep n cs ⟨f0, f1, f2, f3, f4, f5⟩ V → Inv ⟨f0, f1, f2, f3, f4, f5⟩ V → (V.p i).f0 = true → (V.p t).f0 = false → Okk (run (step98 (f89 K) (f91 K) (f95 K)) k (J98.j6 (i : Int) (t : Int) (p : Int) cs f0 f1 f2 f3 f4 f5 z)) (fun r => Fr_ n cs r.2 ∧ (0 ≤ r.1.2 → ∃ V', Rep n r.2 r.1.1 V' ∧ Inv r.1.1 V')) := by
      intro k cs f5 V hk R I hl hd
      obtain ⟨k, rfl⟩ : ∃ j, k = j + 1 := ⟨k - 1, by omega⟩
      rw [run_succ]; simp only [step98]
      rw [wsucc (by omega)]
      exact fork1 K hK hi ht f0 f1 f2 f3 f4 z d (p + 1) k cs f5 V (by omega) (by omega) R I hl hd
    rw [run_succ]; simp only [step98, e, ps.okA, ps.rdc, e0, e1, cond_true]
    refine .bnd (ok89 K (by omega) (x := rd114 V.ps (i : Int)) (R.al i hi') (by have := I.al i hi; omega) (p : Int)) fun r hr => ?_
    obtain ⟨b, cs1⟩ := r
    simp only at hr ⊢
    subst hr
    refine .cnd (fun _ => ?_) fun _ => j6 _ _ _ V (by omega) R I hl hd
    simp only [ps.okA, ps.rdc, o0, o1, e0, e1, e2, e3, cond_true]
    refine .cnd (fun _ => ?_) fun _ => j6 _ _ _ V (by omega) R I hl hd
    rw [run_succ]; simp only [step98]
    refine .bnd (ok95 K (by omega) R I hi hp) fun r hr => ?_
    obtain ⟨⟨m1, b1⟩, cs2⟩ := r
    obtain ⟨f1_, hr⟩ := hr
    simp only at f1_ hr ⊢
    refine .cnd (fun _ => .ret ⟨f1_, fun h => by simp only at h; omega⟩) fun c => ?_
    obtain ⟨V1, R1, I1, B1⟩ := hr (by simpa using c)
    obtain ⟨h', em⟩ := B1.eq
    simp only at em
    subst em
    exact (j6 (k + 1) cs2 h' V1 (by omega) R1 I1 (by unfold MV.p; rw [B1.ps]; exact hl) (by unfold MV.p; rw [B1.ps]; exact hd)).mono fun r hr => ⟨f1_.trans hr.1, hr.2⟩
theorem ok98 (k : Nat) (hk : 3000 < k) {cs : H} (R : Rep n cs m V) (I : Inv m V) (hi : i < 5) (hl : (V.p i).f0 = true) : Okk (f98 k (cs, m, (i : Int))) (fun r => Fr_ n cs r.2 ∧ (0 ≤ r.1.2 → ∃ V', Rep n r.2 r.1.1 V' ∧ Inv r.1.1 V')) := by
  unfold f98 start98
  refine .bnd (ok91' k (by omega) R I.np) fun r hr => ?_
  obtain ⟨t, cs1⟩ := r
  obtain ⟨e, hr⟩ := hr
  simp only at e hr ⊢
  subst e
  refine .cnd (fun c => .ret ⟨.refl _ _, fun h => by simp only at h; omega⟩) fun c => ?_
  have c : ¬ (t < 0) := by simpa using c
  obtain ⟨q, hq, rfl, hd, _⟩ := hr.resolve_left (by omega)
  exact fork1 k hk hi hq m.f0 m.f1 m.f2 m.f3 m.f4 0 16 0 k cs1 m.f5 V (by omega) (by omega) R I hl hd
end
end Go.Sx
