/- The plain law FnBytesSame, over what its functions compute: a part. No further condition. -/
import Derived.Test.YtecniihieninjaaSyPFnBytesSamea
set_option linter.unusedVariables false
set_option linter.unusedSimpArgs false
namespace Go.Sx
open Go.RowKit
set_option linter.unusedVariables false
set_option linter.unusedSimpArgs false

/-! ### pages -/
section
variable {n : Nat} {cs : H} {p : S86} {T : List ByteArray} {R : List Int}

theorem rd3_set {l : List Int} {a : Nat} {x : Int} {b : Int} (ha : a < l.length) (hb : 0 ≤ b) : rd3 (l.set a x) b = if b = (a : Int) then x else rd3 l b := by
  obtain ⟨b, rfl⟩ : ∃ j : Nat, b = j := ⟨b.toNat, by omega⟩
  unfold rd3
  by_cases c : b = a
  · subst c; simp [ha]
  · have c2 : ¬ ((b : Int) = (a : Int)) := by omega
    have c3 : ¬ a = b := fun h => c h.symm
    simp [c2, c3, List.getElem?_set]
theorem rd9_set {l : List ByteArray} {a : Nat} {x : ByteArray} {b : Int} (ha : a < l.length) (hb : 0 ≤ b) : rd9 (l.set a x) b = if b = (a : Int) then x else rd9 l b := by
  obtain ⟨b, rfl⟩ : ∃ j : Nat, b = j := ⟨b.toNat, by omega⟩
  unfold rd9
  by_cases c : b = a
  · subst c; simp [ha]
  · have c2 : ¬ ((b : Int) = (a : Int)) := by omega
    have c3 : ¬ a = b := fun h => c h.symm
    simp [c2, c3, List.getElem?_set]
theorem rd116_set {l : List S76} {a : Nat} {x : S76} {b : Int} (ha : a < l.length) (hb : 0 ≤ b) : rd116 (l.set a x) b = if b = (a : Int) then x else rd116 l b := by
  obtain ⟨b, rfl⟩ : ∃ j : Nat, b = j := ⟨b.toNat, by omega⟩
  unfold rd116
  by_cases c : b = a
  · subst c; simp [ha]
  · have c2 : ¬ ((b : Int) = (a : Int)) := by omega
    have c3 : ¬ a = b := fun h => c h.symm
    simp [c2, c3, List.getElem?_set]
theorem rd114_set {l : List S114} {a : Nat} {x : S114} {b : Int} (ha : a < l.length) (hb : 0 ≤ b) : rd114 (l.set a x) b = if b = (a : Int) then x else rd114 l b := by
  obtain ⟨b, rfl⟩ : ∃ j : Nat, b = j := ⟨b.toNat, by omega⟩
  unfold rd114
  by_cases c : b = a
  · subst c; simp [ha]
  · have c2 : ¬ ((b : Int) = (a : Int)) := by omega
    have c3 : ¬ a = b := fun h => c h.symm
    simp [c2, c3, List.getElem?_set]

/-- l1Room: how many places are free. -/
theorem ok116 (b : Hd n cs p.f1 3 R) (hR : R.length = 12) : ∀ (d i k c : Nat), i + d = 12 → 2 * d < k → c ≤ i → (0 < c → ∃ a : Nat, a < i ∧ rd3 R a = 0) → (c = 0 → ∀ a : Nat, a < i → rd3 R a ≠ 0) →
    Okk (run step116 k (J116.j3 (c : Int) (i : Int) cs p.f0 p.f1)) (fun r => r.2 = cs ∧ 0 ≤ r.1 ∧ (0 < r.1 → ∃ a : Nat, a < 12 ∧ rd3 R a = 0) ∧ (r.1 = 0 → ∀ a : Nat, a < 12 → rd3 R a ≠ 0))
  | d, i, 0, c, h, hk, hc, h1, h2 => by omega
  | 0, i, k + 1, c, h, hk, hc, h1, h2 => by
    rw [run_succ]; simp only [step116, b.okA, b.okR, b.rdc, cond_true]
    have e : decide ((i : Int) < ((R.length : Nat) : Int)) = false := decide_eq_false (by omega)
    rw [e]
    obtain rfl : i = 12 := by omega
    exact .ret ⟨rfl, by simp only; omega, fun h => h1 (by simp only at h; omega), fun h => h2 (by simp only at h; omega)⟩
  | d + 1, i, k + 1, c, h, hk, hc, h1, h2 => by
    obtain ⟨k, rfl⟩ : ∃ j, k = j + 1 := ⟨k - 1, by omega⟩
    rw [run_succ]; simp only [step116, b.okA, b.okR, b.rdc, cond_true]
    have e : decide ((i : Int) < ((R.length : Nat) : Int)) = true := decide_eq_true (by omega)
    have e0 : decide ((0 : Int) ≤ (i : Int)) = true := decide_eq_true (by omega)
    simp only [e, e0, cond_true]
    refine .cnd (fun z => ?_) fun z => ?_
    · have z : rd3 R (i : Int) = 0 := by simpa using z
      rw [run_succ]; simp only [step116]
      rw [wsucc (by omega), wsucc (by omega)]
      exact ok116 b hR d (i + 1) k (c + 1) (by omega) (by omega) (by omega) (fun _ => ⟨i, by omega, z⟩) (fun h => by omega)
    · have z : rd3 R (i : Int) ≠ 0 := by simpa using z
      rw [run_succ]; simp only [step116]
      rw [wsucc (by omega)]
      refine ok116 b hR d (i + 1) k c (by omega) (by omega) (by omega) (fun h => ?_) (fun h a ha => ?_)
      · obtain ⟨a, a1, a2⟩ := h1 h
        exact ⟨a, by omega, a2⟩
      · by_cases q : a = i
        · rw [q]; exact z
        · exact h2 h a (by omega)
theorem ok116' (k : Nat) (hk : 100 < k) (b : Hd n cs p.f1 3 R) (hR : R.length = 12) : Okk (f116 k (cs, p)) (fun r => r.2 = cs ∧ 0 ≤ r.1 ∧ (0 < r.1 → ∃ a : Nat, a < 12 ∧ rd3 R a = 0) ∧ (r.1 = 0 → ∀ a : Nat, a < 12 → rd3 R a ≠ 0)) := by
  unfold f116 start116
  exact ok116 b hR 12 0 k 0 (by omega) (by omega) (by omega) (fun h => by omega) (fun _ a h => by omega)

/-- l1Take. -/
theorem ok110 (t : ByteArray) (a : Hd n cs p.f0 9 T) (b : Hd n cs p.f1 3 R) (hT : T.length = 12) (hR : R.length = 12) : ∀ (d i k : Nat), i + d = 12 → d < k → (∀ a : Nat, a < i → rd3 R a ≠ 0) →
    Okk (run step110 k (J110.j2 t (i : Int) cs p.f0 p.f1)) (fun r => r.1.1 = p ∧ ((r.1.2 = -1 ∧ r.2 = cs ∧ ∀ a : Nat, a < 12 → rd3 R a ≠ 0) ∨ ∃ j : Nat, j < 12 ∧ rd3 R j = 0 ∧ r.1.2 = (j : Int) ∧ r.2 = setc (setc cs p.f1 (.arr 3 (R.set j 1))) p.f0 (.arr 9 (T.set j t))))
  | d, i, 0, h, hk, h1 => by omega
  | 0, i, k + 1, h, hk, h1 => by
    rw [run_succ]; simp only [step110, b.okR, b.rdc, cond_true]
    have e : decide ((i : Int) < ((R.length : Nat) : Int)) = false := decide_eq_false (by omega)
    rw [e]
    obtain rfl : i = 12 := by omega
    exact .ret ⟨rfl, .inl ⟨rfl, rfl, h1⟩⟩
  | d + 1, i, k + 1, h, hk, h1 => by
    have e : decide ((i : Int) < ((R.length : Nat) : Int)) = true := decide_eq_true (by omega)
    have e2 : decide ((i : Int) < ((T.length : Nat) : Int)) = true := decide_eq_true (by omega)
    have e0 : decide ((0 : Int) ≤ (i : Int)) = true := decide_eq_true (by omega)
    have a1 : Hd n (setc cs p.f1 (.arr 3 (R.set i 1))) p.f0 9 T := a.ty b (by decide) _
    rw [run_succ]; simp only [step110, setc2, b.okA, b.okR, b.rdc, Int.toNat_natCast, a1.okA, a1.rdc, e, e0, e2, cond_true]
    refine .cnd (fun z => ?_) fun z => ?_
    · exact .ret ⟨rfl, .inr ⟨i, by omega, by simpa using z, rfl, rfl⟩⟩
    · rw [wsucc (by omega)]
      refine ok110 t a b hT hR d (i + 1) k (by omega) (by omega) fun j hj => ?_
      by_cases q : j = i
      · rw [q]; simpa using z
      · exact h1 j (by omega)
theorem ok110' (k : Nat) (hk : 100 < k) (t : ByteArray) (a : Hd n cs p.f0 9 T) (b : Hd n cs p.f1 3 R) (hT : T.length = 12) (hR : R.length = 12) :
    Okk (f110 k (cs, p, t)) (fun r => r.1.1 = p ∧ ((r.1.2 = -1 ∧ r.2 = cs ∧ ∀ a : Nat, a < 12 → rd3 R a ≠ 0) ∨ ∃ j : Nat, j < 12 ∧ rd3 R j = 0 ∧ r.1.2 = (j : Int) ∧ r.2 = setc (setc cs p.f1 (.arr 3 (R.set j 1))) p.f0 (.arr 9 (T.set j t)))) := by
  unfold f110 start110
  exact ok110 t a b hT hR 12 0 k (by omega) (by omega) (fun a h => by omega)

/-- l1Give. -/
theorem ok113 (k : Nat) (a : Hd n cs p.f0 9 T) (b : Hd n cs p.f1 3 R) (hT : T.length = 12) (hR : R.length = 12) (j : Nat) (hj : j < 12) (hb : 1 ≤ rd3 R j ∧ rd3 R j ≤ 1000) :
    Okk (f113 k (cs, p, (j : Int))) (fun r => r.1 = p ∧ ∃ T', (T' = T ∨ (rd3 R j = 1 ∧ ∃ z, T' = T.set j z)) ∧ ((r.2 = setc cs p.f1 (.arr 3 (R.set j (rd3 R j - 1))) ∧ T' = T) ∨ r.2 = setc (setc cs p.f1 (.arr 3 (R.set j (rd3 R j - 1)))) p.f0 (.arr 9 T'))) := by
  have e : decide ((j : Int) < ((R.length : Nat) : Int)) = true := decide_eq_true (by omega)
  have e2 : decide ((j : Int) < ((T.length : Nat) : Int)) = true := decide_eq_true (by omega)
  have e0 : decide ((0 : Int) ≤ (j : Int)) = true := decide_eq_true (by omega)
  have a1 : Hd n (setc cs p.f1 (.arr 3 (R.set j (rd3 R j - 1)))) p.f0 9 T := a.ty b (by decide) _
  have b1 : Hd n (setc cs p.f1 (.arr 3 (R.set j (rd3 R j - 1)))) p.f1 3 (R.set j (rd3 R j - 1)) := b.set _
  have e3 : decide ((j : Int) < (((R.set j (rd3 R j - 1)).length : Nat) : Int)) = true := decide_eq_true (by rw [List.length_set]; omega)
  unfold f113 start113
  simp only [setc2, b.okA, b.rdc, Int.toNat_natCast, e, e0, cond_true]
  rw [w64_id (x := rd3 R (j : Int) - 1) (by omega) (by omega)]
  simp only [b1.okA, b1.rdc, a1.okA, a1.rdc, e, e0, e2, e3, cond_true]
  refine .cnd (fun z => ?_) fun z => ?_
  · rw [rd3_set (by omega) (by omega), if_pos rfl] at z
    have z : rd3 R (j : Int) - 1 = 0 := by simpa using z
    exact .ret ⟨rfl, _, .inr ⟨by omega, _, rfl⟩, .inr rfl⟩
  · exact .ret ⟨rfl, T, .inl rfl, .inl ⟨rfl, rfl⟩⟩

/-- l1Copy. -/
theorem ok106 (k : Nat) (hn : n ≤ cs.length) {m : Nat} (a : Hd m cs p.f0 9 T) (b : Hd m cs p.f1 3 R) (hT : T.length = 12) (hR : R.length = 12) :
    Okk (f106 k (cs, p)) (fun r => Fr_ cs.length cs r.2 ∧ Hd cs.length r.2 r.1.f0 9 T ∧ Hd cs.length r.2 r.1.f1 3 R) := by
  unfold f106 start106
  simp only [a.okA, a.rdc, b.okA, b.rdc, cond_true, List.nil_append]
  refine .chk (by rw [hT]; decide) (.chk (by rw [hR]; decide) (.ret ⟨?_, ?_, ?_⟩))
  · rw [List.append_assoc]; exact .app' _
  · exact (Hd.new (t := 9) (Nat.le_refl _) T).app _
  · exact Hd.new (t := 3) (by simp) R
end
end Go.Sx
namespace Go.Sx
open Go.RowKit
set_option linter.unusedVariables false
set_option linter.unusedSimpArgs false

/-! ### memory -/
structure MV where
  rt : List ByteArray
  rr : List Int
  st : List ByteArray
  sr : List Int
  ps : List S114
  sl : List (List S76)
  al : List (List S76)
def MV.s (V : MV) (i : Nat) : List S76 := V.sl.getD i []
def MV.a (V : MV) (i : Nat) : List S76 := V.al.getD i []
def MV.p (V : MV) (i : Nat) : S114 := rd114 V.ps (i : Int)
structure Rep (n : Nat) (cs : H) (m : S89) (V : MV) : Prop where
  rt : Hd n cs m.f0 9 V.rt
  rr : Hd n cs m.f1 3 V.rr
  st : Hd n cs m.f2 9 V.st
  sr : Hd n cs m.f3 3 V.sr
  ps : Hd n cs m.f4 114 V.ps
  ls : V.sl.length = V.ps.length
  la : V.al.length = V.ps.length
  sl : ∀ i, i < V.ps.length → Hz n cs (V.p i).f2 116 (V.s i)
  al : ∀ i, i < V.ps.length → Hz n cs (V.p i).f1 76 (V.a i)
  dt : m.f0 ≠ m.f2
  dr : m.f1 ≠ m.f3
  ds : ∀ i j, i < V.ps.length → j < V.ps.length → (V.p i).f2 = (V.p j).f2 → (V.p i).f2 = 0 ∨ i = j
  da : ∀ i j, i < V.ps.length → j < V.ps.length → (V.p i).f1 = (V.p j).f1 → (V.p i).f1 = 0 ∨ i = j
section
variable {n n' : Nat} {cs cs' : H} {m m' : S89} {V : MV}
theorem Rep.mono (R : Rep n cs m V) (h : n' ≤ n) : Rep n' cs m V where
  rt := R.rt.mono h
  rr := R.rr.mono h
  st := R.st.mono h
  sr := R.sr.mono h
  ps := R.ps.mono h
  ls := R.ls
  la := R.la
  sl := fun i hi => (R.sl i hi).mono h
  al := fun i hi => (R.al i hi).mono h
  dt := R.dt
  dr := R.dr
  ds := R.ds
  da := R.da
theorem Rep.fr' (R : Rep n cs m V) (f : Fr_ cs.length cs cs') : Rep n cs' m V where
  rt := R.rt.fr' f
  rr := R.rr.fr' f
  st := R.st.fr' f
  sr := R.sr.fr' f
  ps := R.ps.fr' f
  ls := R.ls
  la := R.la
  sl := fun i hi => (R.sl i hi).fr' f
  al := fun i hi => (R.al i hi).fr' f
  dt := R.dt
  dr := R.dr
  ds := R.ds
  da := R.da
/-- Only the hand differs. -/
theorem Rep.hand (R : Rep n cs m V) (x : Int) : Rep n cs ⟨m.f0, m.f1, m.f2, m.f3, m.f4, x⟩ V := ⟨R.rt, R.rr, R.st, R.sr, R.ps, R.ls, R.la, R.sl, R.al, R.dt, R.dr, R.ds, R.da⟩
theorem Rep.lt (R : Rep n cs m V) : n ≤ cs.length := by have := R.rt.1; have := R.rt.lt; omega
theorem Rep.setRR (R : Rep n cs m V) (x : List Int) : Rep n (setc cs m.f1 (.arr 3 x)) m { V with rr := x } where
  rt := R.rt.ty R.rr (by decide) _
  rr := R.rr.set _
  st := R.st.ty R.rr (by decide) _
  sr := R.sr.ne (Ne.symm R.dr) _
  ps := R.ps.ty R.rr (by decide) _
  ls := R.ls
  la := R.la
  sl := fun i hi => (R.sl i hi).ty R.rr (by decide) _
  al := fun i hi => (R.al i hi).ty R.rr (by decide) _
  dt := R.dt
  dr := R.dr
  ds := R.ds
  da := R.da
theorem Rep.setSR (R : Rep n cs m V) (x : List Int) : Rep n (setc cs m.f3 (.arr 3 x)) m { V with sr := x } where
  rt := R.rt.ty R.sr (by decide) _
  rr := R.rr.ne R.dr _
  st := R.st.ty R.sr (by decide) _
  sr := R.sr.set _
  ps := R.ps.ty R.sr (by decide) _
  ls := R.ls
  la := R.la
  sl := fun i hi => (R.sl i hi).ty R.sr (by decide) _
  al := fun i hi => (R.al i hi).ty R.sr (by decide) _
  dt := R.dt
  dr := R.dr
  ds := R.ds
  da := R.da
theorem Rep.setRT (R : Rep n cs m V) (x : List ByteArray) : Rep n (setc cs m.f0 (.arr 9 x)) m { V with rt := x } where
  rt := R.rt.set _
  rr := R.rr.ty R.rt (by decide) _
  st := R.st.ne (Ne.symm R.dt) _
  sr := R.sr.ty R.rt (by decide) _
  ps := R.ps.ty R.rt (by decide) _
  ls := R.ls
  la := R.la
  sl := fun i hi => (R.sl i hi).ty R.rt (by decide) _
  al := fun i hi => (R.al i hi).ty R.rt (by decide) _
  dt := R.dt
  dr := R.dr
  ds := R.ds
  da := R.da
theorem Rep.setST (R : Rep n cs m V) (x : List ByteArray) : Rep n (setc cs m.f2 (.arr 9 x)) m { V with st := x } where
  rt := R.rt.ne R.dt _
  rr := R.rr.ty R.st (by decide) _
  st := R.st.set _
  sr := R.sr.ty R.st (by decide) _
  ps := R.ps.ty R.st (by decide) _
  ls := R.ls
  la := R.la
  sl := fun i hi => (R.sl i hi).ty R.st (by decide) _
  al := fun i hi => (R.al i hi).ty R.st (by decide) _
  dt := R.dt
  dr := R.dr
  ds := R.ds
  da := R.da
theorem getD_set {α : Type} {l : List α} {i j : Nat} {x d : α} (h : i < l.length) : (l.set i x).getD j d = if j = i then x else l.getD j d := by
  by_cases c : j = i
  · subst c; simp [h]
  · have c3 : ¬ i = j := fun h => c h.symm
    simp [c, c3, List.getElem?_set]
theorem MV.s_set {i j : Nat} {x : List S76} (h : i < V.sl.length) : ({ V with sl := V.sl.set i x } : MV).s j = if j = i then x else V.s j := getD_set h
theorem Rep.setSl (R : Rep n cs m V) {i : Nat} (hi : i < V.ps.length) (hd : Hd n cs (V.p i).f2 116 (V.s i)) (x : List S76) : Rep n (setc cs (V.p i).f2 (.arr 116 x)) m { V with sl := V.sl.set i x } where
  rt := R.rt.ty hd (by decide) _
  rr := R.rr.ty hd (by decide) _
  st := R.st.ty hd (by decide) _
  sr := R.sr.ty hd (by decide) _
  ps := R.ps.ty hd (by decide) _
  ls := by simp only [List.length_set]; exact R.ls
  la := R.la
  sl := fun j hj => by
    rw [MV.s_set (by rw [R.ls]; exact hi)]
    show Hz n _ (V.p j).f2 116 _
    by_cases c : j = i
    · subst c; rw [if_pos rfl]; exact (hd.set _).z
    · rw [if_neg c]
      refine (R.sl j hj).ne ?_ _
      by_cases e : (V.p j).f2 = (V.p i).f2
      · exact .inl ((R.ds j i hj hi e).resolve_right c)
      · exact .inr e
  al := fun i hi => (R.al i hi).ty hd (by decide) _
  dt := R.dt
  dr := R.dr
  ds := R.ds
  da := R.da
theorem Rep.hd (R : Rep n cs m V) {i : Nat} (hi : i < V.ps.length) (hn : 0 < (V.s i).length) : Hd n cs (V.p i).f2 116 (V.s i) := by
  rcases R.sl i hi with ⟨_, e⟩ | h
  · rw [e] at hn; simp at hn
  · exact h
theorem Rep.frRT (R : Rep n cs m V) (c : Cell TT) : Fr_ n cs (setc cs m.f0 c) := .set (.inr R.rt.1) _
theorem Rep.frRR (R : Rep n cs m V) (c : Cell TT) : Fr_ n cs (setc cs m.f1 c) := .set (.inr R.rr.1) _
theorem Rep.frST (R : Rep n cs m V) (c : Cell TT) : Fr_ n cs (setc cs m.f2 c) := .set (.inr R.st.1) _
theorem Rep.frSR (R : Rep n cs m V) (c : Cell TT) : Fr_ n cs (setc cs m.f3 c) := .set (.inr R.sr.1) _
theorem Rep.frPS (R : Rep n cs m V) (c : Cell TT) : Fr_ n cs (setc cs m.f4 c) := .set (.inr R.ps.1) _
theorem Rep.frSl (R : Rep n cs m V) {i : Nat} (hi : i < V.ps.length) (hn : 0 < (V.s i).length) (c : Cell TT) : Fr_ n cs (setc cs (V.p i).f2 c) := .set (.inr (R.hd hi hn).1) _
end

/-! ### what slots tell -/
def tel (k a : Int) (x : S76) : Bool := x.f0 == k && x.f1 == a
def cn (k a : Int) (s : List S76) : Nat := s.countP (tel k a)
def cnt (k a : Int) : List (List S76) → Nat
  | [] => 0
  | s :: l => cn k a s + cnt k a l
def b2 (b : Bool) : Nat := cond b 1 0
theorem cn_set (k a : Int) : ∀ (s : List S76) (j : Nat) (y : S76), j < s.length → cn k a (s.set j y) + b2 (tel k a (s.getD j ⟨0, 0, false, false⟩)) = cn k a s + b2 (tel k a y)
  | [], j, y, h => by simp at h
  | x :: s, 0, y, h => by
    simp only [cn, List.set_cons_zero, List.countP_cons, List.getD_cons_zero, b2]
    cases tel k a x <;> cases tel k a y <;> simp
  | x :: s, j + 1, y, h => by
    have := cn_set k a s j y (by simpa using h)
    simp only [cn, List.set_cons_succ, List.countP_cons, List.getD_cons_succ] at this ⊢
    omega
theorem cnt_set (k a : Int) : ∀ (L : List (List S76)) (i : Nat) (s : List S76), i < L.length → cnt k a (L.set i s) + cn k a (L.getD i []) = cnt k a L + cn k a s
  | [], i, s, h => by simp at h
  | x :: L, 0, s, h => by simp only [cnt, List.set_cons_zero, List.getD_cons_zero]; omega
  | x :: L, i + 1, s, h => by
    have := cnt_set k a L i s (by simpa using h)
    simp only [cnt, List.set_cons_succ, List.getD_cons_succ]
    omega
/-- A slot that is set. -/
theorem cnt_slot (V : MV) (k a : Int) {i j : Nat} (hi : i < V.sl.length) (hj : j < (V.s i).length) (y : S76) : cnt k a (V.sl.set i ((V.s i).set j y)) + b2 (tel k a (rd116 (V.s i) (j : Int))) = cnt k a V.sl + b2 (tel k a y) := by
  have h1 := cnt_set k a V.sl i ((V.s i).set j y) hi
  have h2 := cn_set k a (V.s i) j y hj
  have e : (V.s i).getD j ⟨0, 0, false, false⟩ = rd116 (V.s i) (j : Int) := rfl
  rw [e] at h2
  have e2 : V.sl.getD i [] = V.s i := rfl
  rw [e2] at h1
  omega
theorem cn_mem {k a : Int} {s : List S76} {x : S76} (h : x ∈ s) (ht : tel k a x = true) : 1 ≤ cn k a s := by
  unfold cn
  exact List.countP_pos_iff.2 ⟨x, h, ht⟩
theorem cnt_mem {k a : Int} : ∀ {L : List (List S76)} {i : Nat} {x : S76}, i < L.length → x ∈ L.getD i [] → tel k a x = true → 1 ≤ cnt k a L
  | [], i, x, h, _, _ => by simp at h
  | s :: L, 0, x, h, hm, ht => by
    have := cn_mem (s := s) (by simpa using hm) ht
    simp only [cnt]; omega
  | s :: L, i + 1, x, h, hm, ht => by
    have := cnt_mem (L := L) (i := i) (x := x) (by simpa using h) (by simpa using hm) ht
    simp only [cnt]; omega
theorem cnt_map {f : S76 → S76} {k a k' a' : Int} {L : List (List S76)} (h : ∀ x, tel k a (f x) = tel k' a' x) : cnt k a (L.map (List.map f)) = cnt k' a' L := by
  induction L with
  | nil => rfl
  | cons s L ih =>
    simp only [List.map_cons, cnt, ih, cn, List.countP_map]
    congr 2
    funext x
    exact h x
theorem cnt_zero {k a : Int} {L : List (List S76)} (h : ∀ s ∈ L, ∀ x ∈ s, tel k a x = false) : cnt k a L = 0 := by
  induction L with
  | nil => rfl
  | cons s L ih =>
    simp only [cnt, cn]
    rw [ih fun s hs => h s (by simp [hs]), List.countP_eq_zero.2 fun x hx => by rw [h s (by simp) x hx]; decide]
theorem cnt_zero' {k a : Int} {L : List (List S76)} (h : cnt k a L = 0) : ∀ s ∈ L, ∀ x ∈ s, tel k a x = false := by
  induction L with
  | nil => intro s hs; simp at hs
  | cons s L ih =>
    simp only [cnt, cn] at h
    intro s' hs x hx
    rcases List.mem_cons.1 hs with rfl | hs
    · have := List.countP_eq_zero.1 (show List.countP (tel k a) s' = 0 by omega) x hx
      simpa using this
    · exact ih (by omega) s' hs x hx
/-- The slots of a place told elsewhere. -/
def turnF (k a k' a' : Int) (x : S76) : S76 := cond (tel k a x) ⟨k', a', x.f2, x.f3⟩ x
theorem turn_yes {k a k' a' : Int} {x : S76} (h : tel k a x = true) : turnF k a k' a' x = ⟨k', a', x.f2, x.f3⟩ := by simp only [turnF, h, cond_true]
theorem cn_turn {k a k' a' : Int} (hne : ¬ (k = k' ∧ a = a')) (s : List S76) : cn k' a' (s.map (turnF k a k' a')) = cn k' a' s + cn k a s := by
  induction s with
  | nil => rfl
  | cons x s ih =>
    simp only [cn, List.map_cons, List.countP_cons] at ih ⊢
    rw [ih]
    cases h : tel k a x with
    | true =>
      have e1 : tel k' a' (turnF k a k' a' x) = true := by rw [turn_yes h]; simp [tel]
      have e2 : tel k' a' x = false := by
        simp only [tel, Bool.and_eq_true, beq_iff_eq, Bool.and_eq_false_iff, beq_eq_false_iff_ne] at h ⊢
        by_cases c : k = k'
        · right; intro hh; exact hne ⟨c, by omega⟩
        · left; intro hh; omega
      simp [e1, e2]
      omega
    | false =>
      have e1 : turnF k a k' a' x = x := by simp [turnF, h]
      rw [e1]
      cases tel k' a' x <;> simp <;> omega
theorem cnt_turn {k a k' a' : Int} (hne : ¬ (k = k' ∧ a = a')) (L : List (List S76)) : cnt k' a' (L.map (List.map (turnF k a k' a'))) = cnt k' a' L + cnt k a L := by
  induction L with
  | nil => rfl
  | cons s L ih =>
    simp only [List.map_cons, cnt, ih, cn_turn hne]
    omega
theorem turn_from {k a k' a' : Int} (hne : ¬ (k = k' ∧ a = a')) (x : S76) : tel k a (turnF k a k' a' x) = false := by
  cases h : tel k a x with
  | true =>
    rw [turn_yes h]
    simp only [tel, Bool.and_eq_false_iff, beq_eq_false_iff_ne]
    by_cases c : k = k'
    · right; intro hh; exact hne ⟨c, by omega⟩
    · left; intro hh; omega
  | false => simp [turnF, h]
theorem turn_else {k a k' a' q b : Int} (h1 : ¬ (q = k ∧ b = a)) (h2 : ¬ (q = k' ∧ b = a')) (x : S76) : tel q b (turnF k a k' a' x) = tel q b x := by
  cases h : tel k a x with
  | true =>
    have e1 : tel q b (turnF k a k' a' x) = false := by
      rw [turn_yes h]
      simp only [tel, Bool.and_eq_false_iff, beq_eq_false_iff_ne]
      by_cases c : k' = q
      · right; intro hh; exact h2 ⟨c.symm, by omega⟩
      · left; exact c
    have e2 : tel q b x = false := by
      simp only [tel, Bool.and_eq_true, beq_iff_eq, Bool.and_eq_false_iff, beq_eq_false_iff_ne] at h ⊢
      by_cases c : k = q
      · right; intro hh; exact h1 ⟨c.symm, by omega⟩
      · left; intro hh; omega
    rw [e1, e2]
  | false => simp [turnF, h]
end Go.Sx
namespace Go.Sx
open Go.RowKit
set_option linter.unusedVariables false
set_option linter.unusedSimpArgs false

/-! ### slot by slot -/
structure Part (t : S76 → S76) (V : MV) (i j : Nat) (L : List (List S76)) : Prop where
  len : L.length = V.sl.length
  row : ∀ a, a < V.sl.length → (L.getD a []).length = (V.s a).length
  at_ : ∀ a b : Nat, a < V.sl.length → b < (V.s a).length → rd116 (L.getD a []) (b : Int) = if a < i ∨ (a = i ∧ b < j) then t (rd116 (V.s a) (b : Int)) else rd116 (V.s a) (b : Int)
section
variable {t : S76 → S76} {V : MV} {i j : Nat} {L : List (List S76)}
theorem Part.start (V : MV) (t : S76 → S76) : Part t V 0 0 V.sl := ⟨rfl, fun _ _ => rfl, fun a b _ _ => by rw [if_neg (by omega)]; rfl⟩
theorem Part.now (P : Part t V i j L) (hi : i < V.sl.length) (hj : j < (V.s i).length) : rd116 (L.getD i []) (j : Int) = rd116 (V.s i) (j : Int) := by
  rw [P.at_ i j hi hj, if_neg (by omega)]
theorem Part.set (P : Part t V i j L) (hi : i < V.sl.length) (hj : j < (V.s i).length) {y : S76} (hy : y = t (rd116 (V.s i) (j : Int))) : Part t V i (j + 1) (L.set i ((L.getD i []).set j y)) := by
  have hl : i < L.length := by rw [P.len]; exact hi
  refine ⟨by rw [List.length_set]; exact P.len, fun a ha => ?_, fun a b ha hb => ?_⟩
  · rw [getD_set hl]
    split
    · rename_i c; rw [c, List.length_set]; exact P.row i hi
    · exact P.row a ha
  · rw [getD_set hl]
    by_cases c : a = i
    · subst c
      rw [if_pos rfl, rd116_set (by rw [P.row a ha]; exact hj) (by omega)]
      by_cases c2 : b = j
      · subst c2; rw [if_pos rfl, if_pos (by omega)]; exact hy
      · rw [if_neg (by omega), P.at_ a b ha hb]
        by_cases c3 : b < j
        · rw [if_pos (by omega), if_pos (by omega)]
        · rw [if_neg (by omega), if_neg (by omega)]
    · rw [if_neg c, P.at_ a b ha hb]
      by_cases c3 : a < i
      · rw [if_pos (by omega), if_pos (by omega)]
      · rw [if_neg (by omega), if_neg (by omega)]
theorem Part.skip (P : Part t V i j L) (hi : i < V.sl.length) (hj : j < (V.s i).length) (hy : t (rd116 (V.s i) (j : Int)) = rd116 (V.s i) (j : Int)) : Part t V i (j + 1) L := by
  refine ⟨P.len, P.row, fun a b ha hb => ?_⟩
  rw [P.at_ a b ha hb]
  by_cases c : a = i
  · subst c
    by_cases c2 : b = j
    · subst c2; rw [if_neg (by omega), if_pos (by omega), hy]
    · by_cases c3 : b < j
      · rw [if_pos (by omega), if_pos (by omega)]
      · rw [if_neg (by omega), if_neg (by omega)]
  · by_cases c3 : a < i
    · rw [if_pos (by omega), if_pos (by omega)]
    · rw [if_neg (by omega), if_neg (by omega)]
theorem Part.next (P : Part t V i (V.s i).length L) : Part t V (i + 1) 0 L := by
  refine ⟨P.len, P.row, fun a b ha hb => ?_⟩
  rw [P.at_ a b ha hb]
  by_cases c : a < i
  · rw [if_pos (by omega), if_pos (by omega)]
  · by_cases c2 : a = i
    · subst c2; rw [if_pos (by omega), if_pos (by omega)]
    · rw [if_neg (by omega), if_neg (by omega)]
theorem Part.fin (P : Part t V V.sl.length 0 L) : L = V.sl.map (List.map t) := by
  refine List.ext_getElem (by rw [List.length_map]; exact P.len) fun a h1 h2 => ?_
  have ha : a < V.sl.length := by rw [← P.len]; exact h1
  have e1 : L.getD a [] = L[a] := by simp [h1]
  have e2 : V.s a = V.sl[a] := by simp [MV.s, ha]
  rw [List.getElem_map, ← e1, ← e2]
  refine List.ext_getElem (by rw [List.length_map]; exact P.row a ha) fun b g1 g2 => ?_
  have hb : b < (V.s a).length := by rw [← P.row a ha]; exact g1
  have := P.at_ a b ha hb
  rw [if_pos (by omega), rd116_at g1, rd116_at hb] at this
  rw [List.getElem_map]; exact this
end

theorem tel_false {k a : Int} {x : S76} (h : tel k a x = false) (k' a' : Int) : turnF k a k' a' x = x := by simp [turnF, h]

/-! l3Turn -/
section
variable {n : Nat} {m : S89} {V : MV}
theorem ok112 (q a q' a' : Int) (h5 : V.ps.length = 5) (h16 : ∀ i, i < 5 → (V.s i).length ≤ 16) (hls : V.sl.length = V.ps.length) : ∀ (e i k : Nat) (cs : H) (L : List (List S76)), i + e = 5 → 60 * e + 1 ≤ k → Rep n cs m { V with sl := L } → Part (turnF q a q' a') V i 0 L →
    Okk (run step112 k (J112.j2 q a q' a' (i : Int) cs m.f0 m.f1 m.f2 m.f3 m.f4 m.f5 0)) (fun r => Fr_ n cs r.2 ∧ r.1 = m ∧ Rep n r.2 m { V with sl := V.sl.map (List.map (turnF q a q' a')) })
  | 0, i, k, cs, L, he, hk, R, P => by
    obtain ⟨k, rfl⟩ : ∃ j, k = j + 1 := ⟨k - 1, by omega⟩
    rw [run_succ]; simp only [step112, R.ps.okR, R.ps.rdc, cond_true]
    have e : decide ((i : Int) < ((V.ps.length : Nat) : Int)) = false := decide_eq_false (by omega)
    rw [e]
    obtain rfl : i = V.sl.length := by omega
    exact .ret ⟨.refl _ _, rfl, P.fin ▸ R⟩
  | e + 1, i, k, cs, L, he, hk, R, P => by
    have hi : i < V.ps.length := by omega
    have hi' : i < V.sl.length := by omega
    have inner : ∀ (d j k : Nat) (cs : H) (L : List (List S76)), j + d = (V.s i).length → 3 * d + 60 * e + 2 ≤ k → Rep n cs m { V with sl := L } → Part (turnF q a q' a') V i j L →
        Okk (run step112 k (J112.j5 q a q' a' (i : Int) (j : Int) cs m.f0 m.f1 m.f2 m.f3 m.f4 m.f5 0)) (fun r => Fr_ n cs r.2 ∧ r.1 = m ∧ Rep n r.2 m { V with sl := V.sl.map (List.map (turnF q a q' a')) }) := by
      intro d
      induction d with
      | zero =>
        intro j k cs L hd hk R P
        obtain ⟨k, rfl⟩ : ∃ j, k = j + 1 := ⟨k - 1, by omega⟩
        have e1 : decide ((i : Int) < ((V.ps.length : Nat) : Int)) = true := decide_eq_true (by omega)
        have e0 : decide ((0 : Int) ≤ (i : Int)) = true := decide_eq_true (by omega)
        have rw1 : ({ V with sl := L } : MV).s i = L.getD i [] := rfl
        have hs := R.sl i hi
        rw [rw1] at hs
        have o1 : okR 116 cs (rd114 V.ps (i : Int)).f2 = true := hs.okR
        have o2 : rdc 116 cs (rd114 V.ps (i : Int)).f2 = L.getD i [] := hs.rdc
        have e3 : decide ((j : Int) < (((L.getD i []).length : Nat) : Int)) = false := decide_eq_false (by rw [P.row i hi']; omega)
        rw [run_succ]; simp only [step112, R.ps.okA, R.ps.okR, R.ps.rdc, e0, e1, o1, o2, e3, cond_true, cond_false]
        rw [wsucc (by omega)]
        obtain rfl : j = (V.s i).length := by omega
        exact ok112 q a q' a' h5 h16 hls e (i + 1) k cs L (by omega) (by omega) R P.next
      | succ d ih =>
        intro j k cs L hd hk R P
        obtain ⟨k, rfl⟩ : ∃ j, k = j + 3 := ⟨k - 3, by omega⟩
        have hj : j < (V.s i).length := by omega
        have hjL : j < (L.getD i []).length := by rw [P.row i hi']; exact hj
        have e1 : decide ((i : Int) < ((V.ps.length : Nat) : Int)) = true := decide_eq_true (by omega)
        have e0 : decide ((0 : Int) ≤ (i : Int)) = true := decide_eq_true (by omega)
        have e4 : decide ((0 : Int) ≤ (j : Int)) = true := decide_eq_true (by omega)
        have hs := R.sl i hi
        have rw1 : ({ V with sl := L } : MV).s i = L.getD i [] := rfl
        rw [rw1] at hs
        have o0 : okA 116 cs (rd114 V.ps (i : Int)).f2 = true := hs.okA
        have o1 : okR 116 cs (rd114 V.ps (i : Int)).f2 = true := hs.okR
        have o2 : rdc 116 cs (rd114 V.ps (i : Int)).f2 = L.getD i [] := hs.rdc
        have e3 : decide ((j : Int) < (((L.getD i []).length : Nat) : Int)) = true := decide_eq_true (by omega)
        have j6 : ∀ (k : Nat) (cs : H) (L : List (List S76)), 3 * d + 60 * e + 3 ≤ k → Rep n cs m { V with sl := L } → Part (turnF q a q' a') V i (j + 1) L → Okk (run step112 k (J112.j6 q a q' a' (i : Int) (j : Int) cs m.f0 m.f1 m.f2 m.f3 m.f4 m.f5 0)) (fun r => Fr_ n cs r.2 ∧ r.1 = m ∧ Rep n r.2 m { V with sl := V.sl.map (List.map (turnF q a q' a')) }) := by
          intro k cs L hk R P
          obtain ⟨k, rfl⟩ : ∃ j, k = j + 1 := ⟨k - 1, by omega⟩
          rw [run_succ]; simp only [step112]
          have := h16 i (by omega)
          rw [wsucc (by omega)]
          exact ih (j + 1) k cs L (by omega) (by omega) R P
        rw [run_succ]; simp only [step112, R.ps.okA, R.ps.okR, R.ps.rdc, e0, e1, o0, o1, o2, e3, e4, cond_true, cond_false]
        have hx := P.now hi' hj
        have no : tel q a (rd116 (V.s i) (j : Int)) = false → Okk (run step112 (k + 2) (J112.j6 q a q' a' (i : Int) (j : Int) cs m.f0 m.f1 m.f2 m.f3 m.f4 m.f5 0)) (fun r => Fr_ n cs r.2 ∧ r.1 = m ∧ Rep n r.2 m { V with sl := V.sl.map (List.map (turnF q a q' a')) }) := fun h => j6 _ cs L (by omega) R (P.skip hi' hj (tel_false h _ _))
        refine .cnd (fun c1 => .cnd (fun c2 => ?_) fun c2 => no ?_) fun c1 => no ?_
        · have ht : tel q a (rd116 (V.s i) (j : Int)) = true := by
            rw [← hx]; unfold tel; rw [c1, c2]; rfl
          rw [run_succ]; simp only [step112, setc2, R.ps.okA, R.ps.okR, R.ps.rdc, e0, e1, o0, o1, o2, e3, e4, cond_true, cond_false, Int.toNat_natCast]
          have R2 := R.setSl hi (R.hd hi (by show 0 < (L.getD i []).length; omega)) ((L.getD i []).set j ⟨q', a', (rd116 (L.getD i []) (j : Int)).f2, (rd116 (L.getD i []) (j : Int)).f3⟩)
          have f2 := R.frSl hi (by show 0 < (L.getD i []).length; omega) (Cell.arr (T := TT) 116 ((L.getD i []).set j ⟨q', a', (rd116 (L.getD i []) (j : Int)).f2, (rd116 (L.getD i []) (j : Int)).f3⟩))
          refine (j6 _ _ _ (by omega) R2 (P.set hi' hj ?_)).mono fun r hr => ⟨f2.trans hr.1, hr.2⟩
          rw [hx, turn_yes ht]
        · rw [← hx]; unfold tel; rw [c1, c2]; rfl
        · rw [← hx]; unfold tel; rw [c1]; rfl
    obtain ⟨k, rfl⟩ : ∃ j, k = j + 1 := ⟨k - 1, by omega⟩
    have e1 : decide ((i : Int) < ((V.ps.length : Nat) : Int)) = true := decide_eq_true (by omega)
    rw [run_succ]; simp only [step112, R.ps.okR, R.ps.rdc, e1, cond_true]
    have := h16 i (by omega)
    exact inner (V.s i).length 0 k cs L (by omega) (by omega) R P
theorem ok112' (k : Nat) (hk : 1000 < k) {cs : H} (R : Rep n cs m V) (h5 : V.ps.length = 5) (h16 : ∀ i, i < 5 → (V.s i).length ≤ 16) (q a q' a' : Int) :
    Okk (f112 k (cs, m, q, a, q', a')) (fun r => Fr_ n cs r.2 ∧ r.1 = m ∧ Rep n r.2 m { V with sl := V.sl.map (List.map (turnF q a q' a')) }) := by
  unfold f112 start112
  exact ok112 q a q' a' h5 h16 R.ls 5 0 k cs V.sl (by omega) (by omega) R (.start V _)

/-- l3Calm. -/
def calmF (a : Int) (x : S76) : S76 := cond (tel 1 a x) ⟨x.f0, x.f1, x.f2, false⟩ x
def usd (s : List S76) : Nat := s.countP (fun x => x.f3)
def usC : List (List S76) → Nat
  | [] => 0
  | s :: l => usd s + usC l
theorem calm_tel (a k b : Int) (x : S76) : tel k b (calmF a x) = tel k b x := by
  unfold calmF
  cases tel 1 a x <;> rfl
theorem usd_set : ∀ (s : List S76) (j : Nat) (y : S76), j < s.length → usd (s.set j y) + b2 (s.getD j ⟨0, 0, false, false⟩).f3 = usd s + b2 y.f3
  | [], j, y, h => by simp at h
  | x :: s, 0, y, h => by
    simp only [usd, List.set_cons_zero, List.countP_cons, List.getD_cons_zero, b2]
    cases x.f3 <;> cases y.f3 <;> simp
  | x :: s, j + 1, y, h => by
    have := usd_set s j y (by simpa using h)
    simp only [usd, List.set_cons_succ, List.countP_cons, List.getD_cons_succ] at this ⊢
    omega
theorem usC_set : ∀ (L : List (List S76)) (i : Nat) (s : List S76), i < L.length → usC (L.set i s) + usd (L.getD i []) = usC L + usd s
  | [], i, s, h => by simp at h
  | x :: L, 0, s, h => by simp only [usC, List.set_cons_zero, List.getD_cons_zero]; omega
  | x :: L, i + 1, s, h => by
    have := usC_set L i s (by simpa using h)
    simp only [usC, List.set_cons_succ, List.getD_cons_succ]
    omega
theorem ok117 (a : Int) (h5 : V.ps.length = 5) (h16 : ∀ i, i < 5 → (V.s i).length ≤ 16) (hls : V.sl.length = V.ps.length) : ∀ (e i k : Nat) (was : Bool) (cs : H) (L : List (List S76)), i + e = 5 → 80 * e + 1 ≤ k → Rep n cs m { V with sl := L } → Part (calmF a) V i 0 L → usC L + b2 was ≤ usC V.sl →
    Okk (run step117 k (J117.j3 a was (i : Int) cs m.f0 m.f1 m.f2 m.f3 m.f4 m.f5 0)) (fun r => Fr_ n cs r.2 ∧ r.1.1 = m ∧ Rep n r.2 m { V with sl := V.sl.map (List.map (calmF a)) } ∧ usC (V.sl.map (List.map (calmF a))) + b2 r.1.2 ≤ usC V.sl)
  | 0, i, k, was, cs, L, he, hk, R, P, hu => by
    obtain ⟨k, rfl⟩ : ∃ j, k = j + 1 := ⟨k - 1, by omega⟩
    rw [run_succ]; simp only [step117, R.ps.okR, R.ps.rdc, cond_true]
    have e : decide ((i : Int) < ((V.ps.length : Nat) : Int)) = false := decide_eq_false (by omega)
    rw [e]
    obtain rfl : i = V.sl.length := by omega
    exact .ret ⟨.refl _ _, rfl, P.fin ▸ R, P.fin ▸ hu⟩
  | e + 1, i, k, was, cs, L, he, hk, R, P, hu => by
    have hi : i < V.ps.length := by omega
    have hi' : i < V.sl.length := by omega
    have inner : ∀ (d j k : Nat) (was : Bool) (cs : H) (L : List (List S76)), j + d = (V.s i).length → 4 * d + 80 * e + 2 ≤ k → Rep n cs m { V with sl := L } → Part (calmF a) V i j L → usC L + b2 was ≤ usC V.sl →
        Okk (run step117 k (J117.j6 a was (i : Int) (j : Int) cs m.f0 m.f1 m.f2 m.f3 m.f4 m.f5 0)) (fun r => Fr_ n cs r.2 ∧ r.1.1 = m ∧ Rep n r.2 m { V with sl := V.sl.map (List.map (calmF a)) } ∧ usC (V.sl.map (List.map (calmF a))) + b2 r.1.2 ≤ usC V.sl) := by
      intro d
      induction d with
      | zero =>
        intro j k was cs L hd hk R P hu
        obtain ⟨k, rfl⟩ : ∃ j, k = j + 1 := ⟨k - 1, by omega⟩
        have e1 : decide ((i : Int) < ((V.ps.length : Nat) : Int)) = true := decide_eq_true (by omega)
        have e0 : decide ((0 : Int) ≤ (i : Int)) = true := decide_eq_true (by omega)
        have rw1 : ({ V with sl := L } : MV).s i = L.getD i [] := rfl
        have hs := R.sl i hi
        rw [rw1] at hs
        have o1 : okR 116 cs (rd114 V.ps (i : Int)).f2 = true := hs.okR
        have o2 : rdc 116 cs (rd114 V.ps (i : Int)).f2 = L.getD i [] := hs.rdc
        have e3 : decide ((j : Int) < (((L.getD i []).length : Nat) : Int)) = false := decide_eq_false (by rw [P.row i hi']; omega)
        rw [run_succ]; simp only [step117, R.ps.okA, R.ps.okR, R.ps.rdc, e0, e1, o1, o2, e3, cond_true, cond_false]
        rw [wsucc (by omega)]
        obtain rfl : j = (V.s i).length := by omega
        exact ok117 a h5 h16 hls e (i + 1) k was cs L (by omega) (by omega) R P.next hu
      | succ d ih =>
        intro j k was cs L hd hk R P hu
        obtain ⟨k, rfl⟩ : ∃ j, k = j + 4 := ⟨k - 4, by omega⟩
        have hj : j < (V.s i).length := by omega
        have hjL : j < (L.getD i []).length := by rw [P.row i hi']; exact hj
        have e1 : decide ((i : Int) < ((V.ps.length : Nat) : Int)) = true := decide_eq_true (by omega)
        have e0 : decide ((0 : Int) ≤ (i : Int)) = true := decide_eq_true (by omega)
        have e4 : decide ((0 : Int) ≤ (j : Int)) = true := decide_eq_true (by omega)
        have hs := R.sl i hi
        have rw1 : ({ V with sl := L } : MV).s i = L.getD i [] := rfl
        rw [rw1] at hs
        have o0 : okA 116 cs (rd114 V.ps (i : Int)).f2 = true := hs.okA
        have o1 : okR 116 cs (rd114 V.ps (i : Int)).f2 = true := hs.okR
        have o2 : rdc 116 cs (rd114 V.ps (i : Int)).f2 = L.getD i [] := hs.rdc
        have e3 : decide ((j : Int) < (((L.getD i []).length : Nat) : Int)) = true := decide_eq_true (by omega)
        have j7 : ∀ (k : Nat) (was : Bool) (cs : H) (L : List (List S76)), 4 * d + 80 * e + 3 ≤ k → Rep n cs m { V with sl := L } → Part (calmF a) V i (j + 1) L → usC L + b2 was ≤ usC V.sl → Okk (run step117 k (J117.j7 a was (i : Int) (j : Int) cs m.f0 m.f1 m.f2 m.f3 m.f4 m.f5 0)) (fun r => Fr_ n cs r.2 ∧ r.1.1 = m ∧ Rep n r.2 m { V with sl := V.sl.map (List.map (calmF a)) } ∧ usC (V.sl.map (List.map (calmF a))) + b2 r.1.2 ≤ usC V.sl) := by
          intro k was cs L hk R P hu
          obtain ⟨k, rfl⟩ : ∃ j, k = j + 1 := ⟨k - 1, by omega⟩
          rw [run_succ]; simp only [step117]
          have := h16 i (by omega)
          rw [wsucc (by omega)]
          exact ih (j + 1) k was cs L (by omega) (by omega) R P hu
        rw [run_succ]; simp only [step117, R.ps.okA, R.ps.okR, R.ps.rdc, e0, e1, o0, o1, o2, e3, e4, cond_true, cond_false]
        have hx := P.now hi' hj
        have no : tel 1 a (rd116 (V.s i) (j : Int)) = false → Okk (run step117 (k + 3) (J117.j7 a was (i : Int) (j : Int) cs m.f0 m.f1 m.f2 m.f3 m.f4 m.f5 0)) (fun r => Fr_ n cs r.2 ∧ r.1.1 = m ∧ Rep n r.2 m { V with sl := V.sl.map (List.map (calmF a)) } ∧ usC (V.sl.map (List.map (calmF a))) + b2 r.1.2 ≤ usC V.sl) := fun h => j7 _ was cs L (by omega) R (P.skip hi' hj (by simp [calmF, h])) hu
        refine .cnd (fun c1 => .cnd (fun c2 => ?_) fun c2 => no ?_) fun c1 => no ?_
        · have ht : tel 1 a (rd116 (V.s i) (j : Int)) = true := by
            rw [← hx]; unfold tel; rw [c1, c2]; rfl
          have j11 : ∀ w2 : Bool, b2 w2 ≤ b2 was + b2 (rd116 (L.getD i []) (j : Int)).f3 → Okk (run step117 (k + 2) (J117.j11 a w2 (i : Int) (j : Int) cs m.f0 m.f1 m.f2 m.f3 m.f4 m.f5 0)) (fun r => Fr_ n cs r.2 ∧ r.1.1 = m ∧ Rep n r.2 m { V with sl := V.sl.map (List.map (calmF a)) } ∧ usC (V.sl.map (List.map (calmF a))) + b2 r.1.2 ≤ usC V.sl) := by
            intro w2 hw
            rw [run_succ]; simp only [step117, setc2, R.ps.okA, R.ps.okR, R.ps.rdc, e0, e1, o0, o1, o2, e3, e4, cond_true, cond_false, Int.toNat_natCast]
            have R2 := R.setSl hi (R.hd hi (by show 0 < (L.getD i []).length; omega)) ((L.getD i []).set j ⟨(rd116 (L.getD i []) (j : Int)).f0, (rd116 (L.getD i []) (j : Int)).f1, (rd116 (L.getD i []) (j : Int)).f2, false⟩)
            have f2 := R.frSl hi (by show 0 < (L.getD i []).length; omega) (Cell.arr (T := TT) 116 ((L.getD i []).set j ⟨(rd116 (L.getD i []) (j : Int)).f0, (rd116 (L.getD i []) (j : Int)).f1, (rd116 (L.getD i []) (j : Int)).f2, false⟩))
            refine (j7 _ w2 _ _ (by omega) R2 (P.set hi' hj ?_) ?_).mono fun r hr => ⟨f2.trans hr.1, hr.2⟩
            · rw [hx]; unfold calmF; rw [ht]; rfl
            · have u1 := usC_set L i ((L.getD i []).set j ⟨(rd116 (L.getD i []) (j : Int)).f0, (rd116 (L.getD i []) (j : Int)).f1, (rd116 (L.getD i []) (j : Int)).f2, false⟩) (by rw [P.len]; exact hi')
              have u2 := usd_set (L.getD i []) j ⟨(rd116 (L.getD i []) (j : Int)).f0, (rd116 (L.getD i []) (j : Int)).f1, (rd116 (L.getD i []) (j : Int)).f2, false⟩ hjL
              have u3 : (L.getD i []).getD j ⟨0, 0, false, false⟩ = rd116 (L.getD i []) (j : Int) := rfl
              rw [u3] at u2
              have u4 : b2 false = 0 := rfl
              simp only [u4] at u2
              show usC (L.set i _) + b2 w2 ≤ _
              omega
          rw [run_succ]; simp only [step117]
          cases was with
          | true => exact j11 true (by show b2 true ≤ b2 true + _; omega)
          | false => exact j11 _ (by show _ ≤ b2 false + _; omega)
        · rw [← hx]; unfold tel; rw [c1, c2]; rfl
        · rw [← hx]; unfold tel; rw [c1]; rfl
    obtain ⟨k, rfl⟩ : ∃ j, k = j + 1 := ⟨k - 1, by omega⟩
    have e1 : decide ((i : Int) < ((V.ps.length : Nat) : Int)) = true := decide_eq_true (by omega)
    rw [run_succ]; simp only [step117, R.ps.okR, R.ps.rdc, e1, cond_true]
    have := h16 i (by omega)
    exact inner (V.s i).length 0 k was cs L (by omega) (by omega) R P hu
theorem ok117' (k : Nat) (hk : 1000 < k) {cs : H} (R : Rep n cs m V) (h5 : V.ps.length = 5) (h16 : ∀ i, i < 5 → (V.s i).length ≤ 16) (a : Int) :
    Okk (f117 k (cs, m, a)) (fun r => Fr_ n cs r.2 ∧ r.1.1 = m ∧ Rep n r.2 m { V with sl := V.sl.map (List.map (calmF a)) } ∧ usC (V.sl.map (List.map (calmF a))) + b2 r.1.2 ≤ usC V.sl) := by
  unfold f117 start117
  exact ok117 a h5 h16 R.ls 5 0 k false cs V.sl (by omega) (by omega) R (.start V _) (by show _ + 0 ≤ _; omega)
end
end Go.Sx
