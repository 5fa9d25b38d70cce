/- The plain law FnBytesSame, over what its functions compute: a part. No further condition. -/
import Derived.Test.YtecniihieninjaaSyPFnBytesSamee
set_option linter.unusedVariables false
set_option linter.unusedSimpArgs false
namespace Go.Sx
open Go.RowKit
set_option linter.unusedVariables false
set_option linter.unusedSimpArgs false
section
variable {n : Nat} {m : S89} {V : MV} {cs : H}

theorem Rd.eta {c : Int} {r : S94} (h : Rd c r) : Rd c (⟨r.f0, r.f1⟩ : S94) := h
abbrev Q71 (n : Nat) (cs : H) (c : Int) (q : S89 × S94 × H) : Prop := Fr_ n cs q.2.2 ∧ Rd (c + 20) q.2.1 ∧ ∃ V', Rep n q.2.2 q.1 V' ∧ Inv q.1 V'
noncomputable abbrev S71 (k : Nat) := step71 (f29 k) (f67 k) (f69 k) (f70 k) (f92 k) (f97 k) (f98 k) (f99 k) (f100 k) (f101 k)
theorem step24 (k : Nat) (hk : 3000 < k) (R : Rep n cs m V) (I : Inv m V) {c : Int} (hc : c ≤ 100000) {i : Nat} (hi : i < 5) (hl : (V.p i).f0 = true) (ad : Int) (h0 : 0 ≤ ad) (h1 : ad < 64) (x : Int) {q : S94} (Q : Rd (c + 10) q) (kk : Nat) (z : Int) :
    Okk (run (S71 k) (kk + 1) (J71.j24 (i : Int) ad x cs q.f0 q.f1 m.f0 m.f1 m.f2 m.f3 m.f4 m.f5 z)) (Q71 n cs c) := by
  have get : Okk ((f101 k (cs, m, (i : Int), ad)).bind fun r33 => some ((r33.fst).fst, ((⟨q.f0, q.f1⟩ : S94), r33.snd))) (Q71 n cs c) := by
    refine .bnd (ok101 k hk R I hi hl ad h0 h1) fun r hr => .ret ⟨hr.1, Q.mono (by omega), hr.2⟩
  have set_ : Okk ((f29 k ((⟨q.f0, q.f1⟩ : S94), 256)).bind fun r34 => (f70 k (cs, m, (i : Int), ad, r34.fst)).bind fun r35 => some ((r35.fst).fst, (r34.snd, r35.snd))) (Q71 n cs c) := by
    refine .bnd (ok29 k (by omega) Q.eta (by omega) 256 (by decide)) fun r hr => ?_
    refine .bnd (ok70 k hk R I hi hl ad r.fst h0 h1) fun s hs => .ret ⟨hs.1, hr.2.2.mono (by omega), ?_⟩
    obtain ⟨V', h1, h2, _⟩ := hs.2
    exact ⟨V', h1, h2⟩
  rw [run_succ]; simp only [S71, step71]
  refine .cnd (fun _ => ?_) fun _ => .cnd (fun _ => .cnd (fun _ => get) fun _ => set_) fun _ => .cnd (fun _ => .cnd (fun _ => get) fun _ => set_) fun _ => .cnd (fun _ => get) fun _ => set_
  refine .bnd (ok29 k (by omega) Q.eta (by omega) 4 (by decide)) fun r hr => ?_
  refine .cnd (fun _ => ?_) fun _ => .ret ⟨.refl _ _, hr.2.2.mono (by omega), V, R, I⟩
  refine .bnd (ok92' k (by omega) R I) fun s hs => ?_
  obtain ⟨m1, cs1⟩ := s
  obtain ⟨f1_, V1, R1, C1⟩ := hs
  simp only at f1_ R1 C1 ⊢
  refine .bnd (ok100' k hk R1 (I.copy C1) hi (by rw [C1.lv i (by rw [I.np]; exact hi)]; exact hl)) fun s hs => ?_
  obtain ⟨g1, e, V2, R2, I2⟩ := hs
  exact .ret ⟨(f1_.trans g1).mono R.lt, hr.2.2.mono (by omega), V2, by rw [e]; exact R2.mono R.lt, by rw [e]; exact I2⟩
theorem ok71 (k : Nat) (hk : 3000 < k) (R : Rep n cs m V) (I : Inv m V) {c : Int} (hc : c ≤ 100000) {r : S94} (Q0 : Rd c r) : Okk (f71 k (r, cs, m)) (Q71 n cs c) := by
  obtain ⟨k', ek⟩ : ∃ q, k = q + 2 := ⟨k - 2, by omega⟩
  have rk : ∀ p, run (S71 k) k p = run (S71 k) (k' + 2) p := fun p => by rw [← ek]
  have area : ∀ (i : Nat), i < 5 → ∀ q : S94, Rd (c + 3) q → Okk ((f92 k (cs, m)).bind fun r12 => (f29 k (q, 12)).bind fun r13 => (f29 k (r13.snd, 4)).bind fun r14 => (f29 k (r14.snd, 5)).bind fun r15 => (f29 k (r15.snd, 3)).bind fun r16 => (f69 k (r12.snd, r12.fst, (i : Int), (⟨r13.fst, w64 (1 + r14.fst), decide (r15.fst > 0), r16.fst == 0⟩ : S76))).bind fun r17 => some ((r17.fst).fst, (r16.snd, r17.snd))) (Q71 n cs c) := by
    intro i hi q Q
    refine .bnd (ok92' k (by omega) R I) fun s hs => ?_
    obtain ⟨m1, cs1⟩ := s
    obtain ⟨f1_, V1, R1, C1⟩ := hs
    simp only at f1_ R1 C1 ⊢
    refine .bnd (ok29 k (by omega) Q (by omega) 12 (by decide)) fun r13 h13 => ?_
    refine .bnd (ok29 k (by omega) h13.2.2 (by omega) 4 (by decide)) fun r14 h14 => ?_
    refine .bnd (ok29 k (by omega) h14.2.2 (by omega) 5 (by decide)) fun r15 h15 => ?_
    refine .bnd (ok29 k (by omega) h15.2.2 (by omega) 3 (by decide)) fun r16 h16 => ?_
    refine .bnd (ok69 k hk R1 (I.copy C1) hi _) fun s hs => ?_
    obtain ⟨g1, e, V2, R2, I2, _⟩ := hs
    exact .ret ⟨(f1_.trans g1).mono R.lt, h16.2.2.mono (by omega), V2, by rw [e]; exact R2.mono R.lt, by rw [e]; exact I2⟩
  have j4 : ∀ (x0 : Int) (q : S94), Rd (c + 1) q → Okk (run (S71 k) (k' + 2) (J71.j4 x0 cs q.f0 q.f1 m.f0 m.f1 m.f2 m.f3 m.f4 m.f5 0)) (Q71 n cs c) := by
    intro x0 q Q
    rw [run_succ]; simp only [S71, step71]
    refine .bnd (ok97 k R I.np x0) fun s hs => ?_
    obtain ⟨b, cs1⟩ := s
    obtain ⟨e, hs⟩ := hs
    simp only at e hs ⊢
    have e := e.symm
    subst e
    refine .cnd (fun _ => ?_) fun w => ?_
    · refine .bnd (ok67 k hk R I) fun s hs => ?_
      obtain ⟨f1_, h1, _⟩ := hs
      refine .cnd (fun w => ?_) fun _ => .ret ⟨f1_.mono R.lt, Q.mono (by omega), V, R.fr' f1_, I⟩
      obtain ⟨V1, R1, I1, _⟩ := h1 w
      exact .ret ⟨f1_.mono R.lt, Q.mono (by omega), V1, R1.mono R.lt, I1⟩
    · obtain ⟨i, hi, rfl, hl⟩ := hs (by simpa using w)
      refine .bnd (ok29 k (by omega) Q.eta (by omega) 64 (by decide)) fun r4 h4 => ?_
      refine .bnd (ok29 k (by omega) h4.2.2 (by omega) 14 (by decide)) fun r5 h5 => ?_
      have j24 : Okk (run (S71 k) (k' + 1) (J71.j24 (i : Int) r4.fst r5.fst cs (r5.snd).f0 (r5.snd).f1 m.f0 m.f1 m.f2 m.f3 m.f4 m.f5 0)) (Q71 n cs c) := step24 k hk R I hc hi hl _ h4.1 h4.2.1 _ (h5.2.2.mono (by omega)) _ _
      have Q5 := h5.2.2.mono (show c + 1 + 1 + 1 ≤ c + 3 by omega)
      refine .cnd (fun _ => ?_) fun _ => .cnd (fun _ => ?_) fun _ => .cnd (fun _ => .cnd (fun _ => area i hi _ Q5) fun _ => j24) fun _ => .cnd (fun _ => .cnd (fun _ => area i hi _ Q5) fun _ => j24) fun _ => .cnd (fun _ => area i hi _ Q5) fun _ => j24
      · refine .bnd (ok92' k (by omega) R I) fun s hs => ?_
        obtain ⟨m1, cs1⟩ := s
        obtain ⟨f1_, V1, R1, C1⟩ := hs
        simp only at f1_ R1 C1 ⊢
        refine .bnd (ok98 k hk R1 (I.copy C1) hi (by rw [C1.lv i (by rw [I.np]; exact hi)]; exact hl)) fun s hs => ?_
        have ff := f1_.trans hs.1
        refine .cnd (fun w => ?_) fun _ => .ret ⟨ff.mono R.lt, h5.2.2.mono (by omega), V, R.fr' ff, I⟩
        obtain ⟨V2, R2, I2⟩ := hs.2 (by simpa using w)
        exact .ret ⟨ff.mono R.lt, h5.2.2.mono (by omega), V2, R2.mono R.lt, I2⟩
      · refine .bnd (ok92' k (by omega) R I) fun s hs => ?_
        obtain ⟨m1, cs1⟩ := s
        obtain ⟨f1_, V1, R1, C1⟩ := hs
        simp only at f1_ R1 C1 ⊢
        refine .bnd (ok29 k (by omega) h5.2.2 (by omega) 12 (by decide)) fun r9 h9 => ?_
        refine .bnd (ok29 k (by omega) h9.2.2 (by omega) 4 (by decide)) fun r10 h10 => ?_
        refine .bnd (ok99' k hk R1 (I.copy C1) hi (by rw [C1.lv i (by rw [I.np]; exact hi)]; exact hl) _ _) fun s hs => ?_
        obtain ⟨g1, e, V2, R2, I2⟩ := hs
        exact .ret ⟨(f1_.trans g1).mono R.lt, h10.2.2.mono (by omega), V2, by rw [e]; exact R2.mono R.lt, by rw [e]; exact I2⟩
  unfold f71 start71
  refine .bnd (ok29 k (by omega) Q0 (by omega) 5 (by decide)) fun r0 h0 => ?_
  refine .bnd (ok97 k R I.np _) fun s hs => ?_
  obtain ⟨b, cs1⟩ := s
  obtain ⟨e, hs⟩ := hs
  simp only at e hs ⊢
  have e := e.symm
  subst e
  rw [show ∀ p, run (step71 (f29 k) (f67 k) (f69 k) (f70 k) (f92 k) (f97 k) (f98 k) (f99 k) (f100 k) (f101 k)) k p = run (S71 k) (k' + 2) p from rk, show ∀ p, run (step71 (f29 k) (f67 k) (f69 k) (f70 k) (f92 k) (f97 k) (f98 k) (f99 k) (f100 k) (f101 k)) k p = run (S71 k) (k' + 2) p from rk]
  exact .cnd (fun _ => j4 0 _ h0.2.2) fun _ => j4 _ _ h0.2.2

/-- Memory that was drawn. -/
def Mm (n : Nat) (cs : H) (m : S89) : Prop := (∃ V, Rep n cs m V ∧ Sz V) ∨ ∃ rt rr st sr ys, Hd n cs m.f0 9 rt ∧ Hd n cs m.f1 3 rr ∧ Hd n cs m.f2 9 st ∧ Hd n cs m.f3 3 sr ∧ rt.length = 12 ∧ rr.length = 12 ∧ st.length = 12 ∧ sr.length = 12 ∧ n < m.f4 ∧ cs[m.f4 - 1]? = some (.frz 114 ys) ∧ ys.length = 4
abbrev Q55 (n : Nat) (cs : H) (c : Int) (q : S89 × S94 × H) : Prop := Fr_ n cs q.2.2 ∧ Rd (c + 1000) q.2.1 ∧ Mm n q.2.2 q.1
noncomputable abbrev S55 (k : Nat) := step55 (f29 k) (f67 k) (f68 k) (f69 k) (f70 k) (f71 k) (f72 k)
theorem frz_okR {t h : Nat} {ys : List (TT t)} (hh : 0 < h) (e : cs[h - 1]? = some (.frz t ys)) : okR t cs h = true ∧ rdc t cs h = ys := by
  obtain ⟨j, rfl⟩ : ∃ j, h = j + 1 := ⟨h - 1, by omega⟩
  simp only [Nat.add_sub_cancel] at e
  constructor
  · simp only [okR, e, Nat.beq_refl]
  · simp only [rdc, e, dif_pos]
/-- The spoiling. -/
theorem spoil4 (R : Rep n cs m V) (I : Inv m V) (x : S76) : ∃ o, o = (V.p 1).f1 ∧ Fr_ n cs ((setc (setc cs o .dead ++ [Cell.arr (T := TT) 76 (V.a 1 ++ [x])]) m.f4 (Cell.arr (T := TT) 114 (V.ps.set 1 ⟨(V.p 1).f0, (setc cs o .dead).length + 1, (V.p 1).f2⟩))) ++ [Cell.arr (T := TT) 76 [x]]) ∧
    Hd n (setc cs o .dead) m.f4 114 V.ps ∧ Hd n (setc cs o .dead ++ [Cell.arr (T := TT) 76 (V.a 1 ++ [x])]) m.f4 114 V.ps ∧
    Rep n ((setc (setc cs o .dead ++ [Cell.arr (T := TT) 76 (V.a 1 ++ [x])]) m.f4 (Cell.arr (T := TT) 114 (V.ps.set 1 ⟨(V.p 1).f0, (setc cs o .dead).length + 1, (V.p 1).f2⟩))) ++ [Cell.arr (T := TT) 76 [x]]) m ⟨V.rt, V.rr, V.st, V.sr, V.ps.set 1 ⟨(V.p 1).f0, (setc cs o .dead).length + 1, (V.p 1).f2⟩, V.sl.set 1 (V.s 1), V.al.set 1 (V.a 1 ++ [x])⟩ := by
  have h1 : 1 < V.ps.length := by rw [I.np]; omega
  refine ⟨_, rfl, ?_⟩
  generalize ho : (V.p 1).f1 = o
  have oz : o = 0 ∨ Hd n cs o 76 (V.a 1) := by
    rcases R.al 1 h1 with ⟨z, _⟩ | h
    · left; rw [← ho]; exact z
    · right; rw [← ho]; exact h
  have ty : ∀ t q (ys : List (TT t)), t ≠ 76 → Hd n cs q t ys → Hd n (setc cs o .dead) q t ys := fun t q ys ht h => by
    rcases oz with z | z
    · rw [z]; exact h
    · exact h.ty z ht _
  have fo : Fr_ n cs (setc cs o .dead) := by
    rcases oz with z | z
    · rw [z]; exact .refl _ _
    · exact .set (.inr z.1) _
  have fa := fo.trans (.app n (by rw [setc_len]; exact R.lt) [Cell.arr (T := TT) 76 (V.a 1 ++ [x])])
  have ps1 := ty _ _ _ (by decide) R.ps
  have ps2 := ps1.app [Cell.arr (T := TT) 76 (V.a 1 ++ [x])]
  have new : Hd n (setc cs o .dead ++ [Cell.arr (T := TT) 76 (V.a 1 ++ [x])]) ((setc cs o .dead).length + 1) 76 (V.a 1 ++ [x]) := .new (t := 76) (by rw [setc_len]; exact R.lt) _
  have up : ∀ t q (ys : List (TT t)), t ≠ 114 → Hd n (setc cs o .dead ++ [Cell.arr (T := TT) 76 (V.a 1 ++ [x])]) q t ys → Hd n ((setc (setc cs o .dead ++ [Cell.arr (T := TT) 76 (V.a 1 ++ [x])]) m.f4 (Cell.arr (T := TT) 114 (V.ps.set 1 ⟨(V.p 1).f0, (setc cs o .dead).length + 1, (V.p 1).f2⟩))) ++ [Cell.arr (T := TT) 76 [x]]) q t ys := fun t q ys ht h => (h.ty ps2 ht _).app _
  have up2 : ∀ t q (ys : List (TT t)), t ≠ 114 → t ≠ 76 → Hd n cs q t ys → Hd n ((setc (setc cs o .dead ++ [Cell.arr (T := TT) 76 (V.a 1 ++ [x])]) m.f4 (Cell.arr (T := TT) 114 (V.ps.set 1 ⟨(V.p 1).f0, (setc cs o .dead).length + 1, (V.p 1).f2⟩))) ++ [Cell.arr (T := TT) 76 [x]]) q t ys := fun t q ys ht h7 h => up t q ys ht ((ty t q ys h7 h).app _)
  have l1 : 1 < V.sl.length := by rw [I.ls]; omega
  have la : 1 < V.al.length := by rw [R.la, I.np]; omega
  have ep : ∀ j : Nat, (⟨V.rt, V.rr, V.st, V.sr, V.ps.set 1 ⟨(V.p 1).f0, (setc cs o .dead).length + 1, (V.p 1).f2⟩, V.sl.set 1 (V.s 1), V.al.set 1 (V.a 1 ++ [x])⟩ : MV).p j = if j = 1 then ⟨(V.p 1).f0, (setc cs o .dead).length + 1, (V.p 1).f2⟩ else V.p j := fun j => MV.p_set h1
  have es : ∀ j : Nat, (⟨V.rt, V.rr, V.st, V.sr, V.ps.set 1 ⟨(V.p 1).f0, (setc cs o .dead).length + 1, (V.p 1).f2⟩, V.sl.set 1 (V.s 1), V.al.set 1 (V.a 1 ++ [x])⟩ : MV).s j = V.s j := fun j => by
    refine (getD_set l1).trans ?_
    split
    · rename_i c; rw [c]
    · rfl
  have ea : ∀ j : Nat, (⟨V.rt, V.rr, V.st, V.sr, V.ps.set 1 ⟨(V.p 1).f0, (setc cs o .dead).length + 1, (V.p 1).f2⟩, V.sl.set 1 (V.s 1), V.al.set 1 (V.a 1 ++ [x])⟩ : MV).a j = if j = 1 then V.a 1 ++ [x] else V.a j := fun j => getD_set la
  have p2 : ∀ j : Nat, ((⟨V.rt, V.rr, V.st, V.sr, V.ps.set 1 ⟨(V.p 1).f0, (setc cs o .dead).length + 1, (V.p 1).f2⟩, V.sl.set 1 (V.s 1), V.al.set 1 (V.a 1 ++ [x])⟩ : MV).p j).f2 = (V.p j).f2 := fun j => by
    rw [ep]; split
    · rename_i c; rw [c]
    · rfl
  refine ⟨(fa.trans (.set (.inr R.ps.1) _)).trans (.app n (by rw [setc_len, List.length_append, setc_len]; have := R.lt; omega) _), ps1, ps2, ⟨up2 _ _ _ (by decide) (by decide) R.rt, up2 _ _ _ (by decide) (by decide) R.rr, up2 _ _ _ (by decide) (by decide) R.st, up2 _ _ _ (by decide) (by decide) R.sr, (ps2.set _).app _, by simp only [List.length_set]; exact R.ls, by simp only [List.length_set]; exact R.la, fun j hj => ?_, fun j hj => ?_, R.dt, R.dr, fun j q hj hq => ?_, fun j q hj hq => ?_⟩⟩
  · simp only [List.length_set] at hj
    rw [p2, es]
    exact (R.sl j hj).imp id fun h => up2 _ _ _ (by decide) (by decide) h
  · simp only [List.length_set] at hj
    rw [ep, ea]
    split
    · exact (up _ _ _ (by decide) new).z
    · rename_i c
      refine (R.al j hj).imp id fun h => up _ _ _ (by decide) ((h.ne (fun e => ?_) _).app _)
      rcases R.da j 1 hj h1 (by rw [ho]; exact e) with z | z
      · have := h.1; omega
      · exact c z
  · simp only [List.length_set] at hj hq
    rw [p2, p2]; exact R.ds j q hj hq
  · simp only [List.length_set] at hj hq
    have far : ∀ b, b < V.ps.length → (V.p b).f1 = (setc cs o .dead).length + 1 → False := fun b hb e => by
      rcases R.al b hb with ⟨z, _⟩ | h
      · omega
      · have := h.lt
        rw [setc_len] at e
        omega
    rw [ep, ep]
    by_cases c1 : j = 1 <;> by_cases c2 : q = 1
    · exact fun _ => .inr (c1.trans c2.symm)
    · rw [if_pos c1, if_neg c2]; exact fun e => (far q hq e.symm).elim
    · rw [if_neg c1, if_pos c2]; exact fun e => (far j hj e).elim
    · rw [if_neg c1, if_neg c2]; exact R.da j q hj hq
end
end Go.Sx
namespace Go.Sx
open Go.RowKit
set_option linter.unusedVariables false
set_option linter.unusedSimpArgs false
section
variable {n : Nat} {m : S89} {V : MV} {cs : H}

theorem rd114_0 : rd114 V.ps 0 = V.p 0 := rfl
theorem rd114_1 : rd114 V.ps 1 = V.p 1 := rfl
/-- The spoiling at the end. -/
theorem spoil (k : Nat) (hk : 3000 < k) (R : Rep n cs m V) (I : Inv m V) {c : Int} (hc : c ≤ 100000) {q : S94} (Q : Rd c q) (kk : Nat) (z : Int) : Okk (run (S55 k) (kk + 1) (J55.j9 0 cs q.f0 q.f1 z m.f0 m.f1 m.f2 m.f3 m.f4 m.f5)) (fun s => Fr_ n cs s.2.2 ∧ Rd (c + 10) s.2.1 ∧ Mm n s.2.2 s.1) := by
  have S := I.sz
  have same : ∀ {s : S94}, Rd (c + 10) s → Okk (some (((⟨m.f0, m.f1, m.f2, m.f3, m.f4, m.f5⟩ : S89), (s, cs)) : S89 × S94 × H)) (fun s => Fr_ n cs s.2.2 ∧ Rd (c + 10) s.2.1 ∧ Mm n s.2.2 s.1) := fun h => .ret ⟨.refl _ _, h, .inl ⟨V, R, S⟩⟩
  have e0 : decide ((0 : Int) < ((V.ps.length : Nat) : Int)) = true := decide_eq_true (by rw [I.np]; omega)
  have e1 : decide ((1 : Int) < ((V.ps.length : Nat) : Int)) = true := decide_eq_true (by rw [I.np]; omega)
  have h0 : 0 < V.ps.length := by rw [I.np]; omega
  rw [run_succ]; simp only [S55, step55]
  refine .cnd (fun w => by simp at w) fun _ => ?_
  refine .bnd (ok29 k (by omega) Q.eta (by omega) 24 (by decide)) fun r10 h10 => ?_
  refine .cnd (fun _ => ?_) fun _ => .cnd (fun _ => ?_) fun _ => .cnd (fun _ => ?_) fun _ => .cnd (fun _ => ?_) fun _ => .cnd (fun _ => ?_) fun _ => same (h10.2.2.mono (by omega))
  · refine .bnd (ok29 k (by omega) h10.2.2 (by omega) 3 (by decide)) fun r11 h11 => ?_
    obtain ⟨a, b, h⟩ := h11
    (repeat (refine Okk.chk (by omega) ?_))
    exact .ret ⟨.app _ R.lt _, h.mono (by omega), .inl ⟨V, (R.fr' (.app' _)).hand _, S⟩⟩
  · refine .bnd (ok29 k (by omega) h10.2.2 (by omega) 12 (by decide)) fun r12 h12 => ?_
    refine .bnd (ok29 k (by omega) h12.2.2 (by omega) 3 (by decide)) fun r13 h13 => ?_
    obtain ⟨a, b, _⟩ := h12
    have d0 : decide ((0 : Int) ≤ r12.1) = true := decide_eq_true a
    have d1 : decide (r12.1 < ((V.rr.length : Nat) : Int)) = true := decide_eq_true (by rw [I.nr]; omega)
    simp only [R.rr.okA, R.rr.rdc, d0, d1, cond_true, setc2]
    exact .ret ⟨R.frRR _, h13.2.2.mono (by omega), .inl ⟨_, R.setRR _, ⟨S.nt, by simp only [List.length_set]; exact S.nr, S.mt, S.mr, S.np, S.sl, S.al⟩⟩⟩
  · simp only [R.ps.okA, R.ps.rdc, e0, cond_true, rd114_0]
    refine .cnd (fun w => ?_) fun _ => same (h10.2.2.mono (by omega))
    have l16 := I.live 0 (by omega) w
    refine .bnd (ok29 k (by omega) h10.2.2 (by omega) 16 (by decide)) fun r14 h14 => ?_
    refine .bnd (ok29 k (by omega) h14.2.2 (by omega) 4 (by decide)) fun r15 h15 => ?_
    refine .bnd (ok29 k (by omega) h15.2.2 (by omega) 14 (by decide)) fun r16 h16 => ?_
    refine .bnd (ok29 k (by omega) h16.2.2 (by omega) 2 (by decide)) fun r17 h17 => ?_
    refine .bnd (ok29 k (by omega) h17.2.2 (by omega) 2 (by decide)) fun r18 h18 => ?_
    obtain ⟨a, b, _⟩ := h14
    have d0 : decide ((0 : Int) ≤ r14.1) = true := decide_eq_true a
    have d1 : decide (r14.1 < (((V.s 0).length : Nat) : Int)) = true := decide_eq_true (by omega)
    have o0 : okA 116 cs (V.p 0).f2 = true := (R.sl 0 h0).okA
    have o1 : rdc 116 cs (V.p 0).f2 = V.s 0 := (R.sl 0 h0).rdc
    simp only [o0, o1, d0, d1, cond_true, setc2]
    refine .ret ⟨R.frSl h0 (by omega) _, h18.2.2.mono (by omega), .inl ⟨_, R.setSl h0 (R.hd h0 (by omega)) _, ⟨S.nt, S.nr, S.mt, S.mr, S.np, fun i hi => ?_, S.al⟩⟩⟩
    rw [MV.s_set (by rw [I.ls]; omega)]
    split
    · rw [List.length_set, l16]; exact Nat.le_refl _
    · exact S.sl i hi
  · simp only [R.ps.okA, R.ps.rdc, cond_true]
    refine .chk (by rw [I.np]; omega) (.ret ⟨?_, h10.2.2.mono (by omega), .inr ⟨V.rt, V.rr, V.st, V.sr, List.drop 1 (List.take V.ps.length V.ps), ?_, ?_, ?_, ?_, I.nt, I.nr, I.mt, I.mr, ?_, ?_, ?_⟩⟩)
    · exact (R.frPS _).trans (.app n (by rw [setc_len]; exact R.lt) _)
    · exact (R.rt.ty R.ps (by decide) _).app _
    · exact (R.rr.ty R.ps (by decide) _).app _
    · exact (R.st.ty R.ps (by decide) _).app _
    · exact (R.sr.ty R.ps (by decide) _).app _
    · simp only; rw [setc_len]; have := R.lt; omega
    · simp
    · rw [List.length_drop, List.length_take, I.np]; rfl
  · simp only [R.ps.okA, R.ps.rdc, e1, cond_true, rd114_1]
    refine .bnd (ok72 k (by omega) h10.2.2 (by omega)) fun r19 h19 => ?_
    obtain ⟨o, ho, g1, g2, g3, g4⟩ := spoil4 R I r19.1
    have h1 : 1 < V.ps.length := by rw [I.np]; omega
    have a0 : okA 76 cs o = true := by rw [ho]; exact (R.al 1 h1).okA
    have a1 : rdc 76 cs o = V.a 1 := by rw [ho]; exact (R.al 1 h1).rdc
    have l6 := I.al 1 (by omega)
    rw [← ho]
    simp only [a0, a1, g2.okA, g2.rdc, g3.okA, g3.rdc, e1, cond_true, setc2, rd114_1]
    refine .chk (by simp only [List.length_cons, List.length_nil]; omega) (.ret ⟨g1, h19.mono (by omega), .inl ⟨_, g4, ⟨S.nt, S.nr, S.mt, S.mr, by simp only [List.length_set]; exact S.np, fun i hi => ?_, fun i hi => ?_⟩⟩⟩)
    · have : (⟨V.rt, V.rr, V.st, V.sr, V.ps.set 1 ⟨(V.p 1).f0, (setc cs o .dead).length + 1, (V.p 1).f2⟩, V.sl.set 1 (V.s 1), V.al.set 1 (V.a 1 ++ [r19.1])⟩ : MV).s i = V.s i := by
        refine (getD_set (by rw [I.ls]; omega)).trans ?_
        split
        · rename_i c; rw [c]
        · rfl
      rw [this]; exact S.sl i hi
    · have : (⟨V.rt, V.rr, V.st, V.sr, V.ps.set 1 ⟨(V.p 1).f0, (setc cs o .dead).length + 1, (V.p 1).f2⟩, V.sl.set 1 (V.s 1), V.al.set 1 (V.a 1 ++ [r19.1])⟩ : MV).a i = if i = 1 then V.a 1 ++ [r19.1] else V.a i := getD_set (by rw [R.la, I.np]; omega)
      rw [this]
      split
      · rw [List.length_append]; simp only [List.length_cons, List.length_nil]; omega
      · exact S.al i hi

theorem steps (k : Nat) (hk : 3000 < k) (z : Int) : ∀ (d kk : Nat) (cs : H) (m : S89) (V : MV) (q : S94) (c : Int), c + 20 * d ≤ 100000 → d ≤ 30 → d < kk → Rep n cs m V → Inv m V → Rd c q →
    Okk (run (S55 k) kk (J55.j9 (d : Int) cs q.f0 q.f1 z m.f0 m.f1 m.f2 m.f3 m.f4 m.f5)) (fun s => Fr_ n cs s.2.2 ∧ Rd (c + 20 * d + 10) s.2.1 ∧ Mm n s.2.2 s.1)
  | 0, kk, cs, m, V, q, c, hc, _, hk', R, I, Q => by
    obtain ⟨kk, rfl⟩ : ∃ j, kk = j + 1 := ⟨kk - 1, by omega⟩
    exact (spoil k hk R I (by omega) Q kk z).mono fun s hs => ⟨hs.1, hs.2.1.mono (by omega), hs.2.2⟩
  | d + 1, kk, cs, m, V, q, c, hc, h30, hk', R, I, Q => by
    obtain ⟨kk, rfl⟩ : ∃ j, kk = j + 1 := ⟨kk - 1, by omega⟩
    rw [run_succ]; simp only [S55, step55]
    refine .cnd (fun _ => ?_) fun w => absurd (of_decide_eq_false w) (by omega)
    refine .bnd (ok71 k hk R I (by omega) Q.eta) fun r hr => ?_
    obtain ⟨m1, q1, cs1⟩ := r
    obtain ⟨f1_, Q1, V1, R1, I1⟩ := hr
    simp only at f1_ Q1 R1 I1 ⊢
    rw [show w64 (((d + 1 : Nat) : Int) - 1) = (d : Int) from by rw [w64_id (by omega) (by omega)]; omega]
    exact (steps k hk z d kk cs1 m1 V1 q1 (c + 20) (by omega) (by omega) (by omega) R1 I1 Q1).mono fun s hs => ⟨f1_.trans hs.1, hs.2.1.mono (by omega), hs.2.2⟩
theorem m8 (k : Nat) (hk : 3000 < k) (z : Int) (kk : Nat) (hkk : 100 < kk) (R : Rep n cs m V) (I : Inv m V) {q : S94} {c : Int} (Q : Rd c q) (hc : c ≤ 10000) : Okk (run (S55 k) kk (J55.j8 cs q.f0 q.f1 z m.f0 m.f1 m.f2 m.f3 m.f4 m.f5)) (fun s => Fr_ n cs s.2.2 ∧ Rd (c + 700) s.2.1 ∧ Mm n s.2.2 s.1) := by
  obtain ⟨kk, rfl⟩ : ∃ j, kk = j + 1 := ⟨kk - 1, by omega⟩
  rw [run_succ]; simp only [S55, step55]
  refine .bnd (ok29 k (by omega) Q.eta (by omega) 30 (by decide)) fun r hr => ?_
  obtain ⟨v, q1⟩ := r
  obtain ⟨v0, v1, Q1⟩ := hr
  simp only at v0 v1 Q1 ⊢
  obtain ⟨d, rfl⟩ : ∃ d : Nat, v = d := ⟨v.toNat, by omega⟩
  exact (steps k hk z d kk cs m V q1 (c + 1) (by omega) (by omega) (by omega) R I Q1).mono fun s hs => ⟨hs.1, hs.2.1.mono (by omega), hs.2.2⟩
theorem m5 (k : Nat) (hk : 3000 < k) (z : Int) {q : S94} {c : Int} (Q : Rd c q) (hc : c ≤ 10000) : ∀ (d kk : Nat) (cs : H) (m : S89) (V : MV), d ≤ 15 → d + 102 < kk → Rep n cs m V → Inv m V → (V.p 0).f0 = true →
    Okk (run (S55 k) kk (J55.j5 (d : Int) cs q.f0 q.f1 z m.f0 m.f1 m.f2 m.f3 m.f4 m.f5)) (fun s => Fr_ n cs s.2.2 ∧ Rd (c + 700) s.2.1 ∧ Mm n s.2.2 s.1)
  | 0, kk, cs, m, V, hd, hkk, R, I, hl => by
    obtain ⟨kk, rfl⟩ : ∃ j, kk = j + 1 := ⟨kk - 1, by omega⟩
    rw [run_succ]; simp only [S55, step55]
    refine .cnd (fun w => by simp at w) fun _ => m8 k hk z kk (by omega) R I Q hc
  | d + 1, kk, cs, m, V, hd, hkk, R, I, hl => by
    obtain ⟨kk, rfl⟩ : ∃ j, kk = j + 1 := ⟨kk - 1, by omega⟩
    rw [run_succ]; simp only [S55, step55]
    refine .cnd (fun _ => ?_) fun w => absurd (of_decide_eq_false w) (by omega)
    have a1 : w64 (w64 (((d + 1 : Nat) : Int) * 4) - 1) = ((d + 1 : Nat) : Int) * 4 - 1 := by
      rw [w64_id (x := ((d + 1 : Nat) : Int) * 4) (by omega) (by omega), w64_id (by omega) (by omega)]
    rw [a1, show w64 (((d + 1 : Nat) : Int) - 1) = (d : Int) from by rw [w64_id (by omega) (by omega)]; omega]
    refine .bnd (ok70 k hk R I (i := 0) (by omega) hl _ _ (by omega) (by omega)) fun r hr => ?_
    obtain ⟨⟨m1, x⟩, cs1⟩ := r
    obtain ⟨f1_, V1, R1, I1, hp⟩ := hr
    simp only at f1_ R1 I1 ⊢
    exact (m5 k hk z Q hc d kk cs1 m1 V1 (by omega) (by omega) R1 I1 (by rw [hp 0 (by omega)]; exact hl)).mono fun s hs => ⟨f1_.trans hs.1, hs.2⟩
/-- l91Mem. -/
theorem ok55 (k : Nat) (hk : 3000 < k) {q : S94} {c : Int} (Q : Rd c q) (hc : c ≤ 5000) : Okk (f55 k (q, cs, ())) (Q55 cs.length cs c) := by
  unfold f55 start55
  refine .bnd (ok68 k) fun r hr => ?_
  obtain ⟨m0, cs0⟩ := r
  obtain ⟨f0_, R0, h0⟩ := hr
  simp only at f0_ R0 h0 ⊢
  have I0 := Inv0 h0
  refine .bnd (ok67 k hk R0 I0) fun r hr => ?_
  obtain ⟨⟨m1, w, b⟩, cs1⟩ := r
  obtain ⟨f1_, h1, h2⟩ := hr
  simp only at f1_ h1 h2 ⊢
  obtain ⟨V1, R1, I1, hl⟩ := h1 (h2 (New0 h0))
  have hl := hl (New0 h0)
  have ff := f0_.trans (f1_.mono f0_.le)
  have R1 := R1.mono f0_.le
  refine .bnd (ok29 k (by omega) Q (by omega) 2 (by decide)) fun r2 h2 => ?_
  refine .cnd (fun _ => ?_) fun _ => (m8 k hk 0 k (by omega) R1 I1 h2.2.2 (by omega)).mono fun s hs => ⟨ff.trans hs.1, hs.2.1.mono (by omega), hs.2.2⟩
  refine .bnd (ok29 k (by omega) h2.2.2 (by omega) 9 (by decide)) fun r3 h3 => ?_
  refine .bnd (ok29 k (by omega) h3.2.2 (by omega) 3 (by decide)) fun r4 h4 => ?_
  refine .bnd (ok69 k hk R1 I1 (i := 0) (by omega) _) fun r5 h5 => ?_
  obtain ⟨⟨m2, x⟩, cs2⟩ := r5
  obtain ⟨f2_, e, V2, R2, I2, hp⟩ := h5
  simp only at f2_ e R2 I2 ⊢
  have e := e.symm
  subst e
  refine .bnd (ok29 k (by omega) h4.2.2 (by omega) 16 (by decide)) fun r6 h6 => ?_
  obtain ⟨v, q1⟩ := r6
  obtain ⟨v0, v1, Q1⟩ := h6
  simp only at v0 v1 Q1 ⊢
  obtain ⟨d, rfl⟩ : ∃ d : Nat, v = d := ⟨v.toNat, by omega⟩
  exact (m5 k hk 0 Q1 (by omega) d k cs2 m1 V2 (by omega) (by omega) R2 I2 (by rw [hp 0 (by omega)]; exact hl)).mono fun s hs => ⟨(ff.trans f2_).trans hs.1, hs.2.1.mono (by omega), hs.2.2⟩
end
end Go.Sx
namespace Go.Sx
open Go.RowKit
set_option linter.unusedVariables false
set_option linter.unusedSimpArgs false
section
variable {n : Nat} {m : S89} {V : MV} {cs : H}

/-- l4First. -/
theorem ok90 (K : Nat) (S : Sz V) (x : S76) : ∀ (e i k : Nat), i + e = 5 → 60 * e + 1 ≤ k → Rep n cs m V → Okk (run (step90 (f105 K)) k (J90.j2 (i : Int) cs m.f0 m.f1 m.f2 m.f3 m.f4 m.f5 x.f0 x.f1 x.f2 x.f3)) (fun r => r.2 = cs)
  | 0, i, k, he, hk, R => by
    obtain ⟨k, rfl⟩ : ∃ j, k = j + 1 := ⟨k - 1, by omega⟩
    rw [run_succ]; simp only [step90, R.ps.okR, R.ps.rdc, cond_true]
    have e : decide ((i : Int) < ((V.ps.length : Nat) : Int)) = false := decide_eq_false (by rw [S.np]; omega)
    rw [e]; exact .ret rfl
  | e + 1, i, k, he, hk, R => by
    have hi : i < V.ps.length := by rw [S.np]; omega
    have h16 := S.sl i (by omega)
    obtain ⟨o0, o1⟩ := R.so hi
    have o2 : okR 116 cs (rd114 V.ps (i : Int)).f2 = true := (R.sl i hi).okR
    have e0 : decide ((0 : Int) ≤ (i : Int)) = true := decide_eq_true (by omega)
    have e1 : decide ((i : Int) < ((V.ps.length : Nat) : Int)) = true := decide_eq_true (by omega)
    have inner : ∀ (d j k : Nat), j + d = (V.s i).length → 2 * d + 60 * e + 2 ≤ k → Okk (run (step90 (f105 K)) k (J90.j5 (i : Int) (j : Int) cs m.f0 m.f1 m.f2 m.f3 m.f4 m.f5 x.f0 x.f1 x.f2 x.f3)) (fun r => r.2 = cs) := by
      intro d
      induction d with
      | zero =>
        intro j k hd hk
        obtain ⟨k, rfl⟩ : ∃ j, k = j + 1 := ⟨k - 1, by omega⟩
        have e3 : decide ((j : Int) < (((V.s i).length : Nat) : Int)) = false := decide_eq_false (by omega)
        rw [run_succ]; simp only [step90, R.ps.okA, R.ps.rdc, e0, e1, o1, o2, e3, cond_true, cond_false]
        rw [wsucc (by omega)]
        exact ok90 K S x e (i + 1) k (by omega) (by omega) R
      | succ d ih =>
        intro j k hd hk
        obtain ⟨k, rfl⟩ : ∃ j, k = j + 2 := ⟨k - 2, by omega⟩
        have e2 : decide ((0 : Int) ≤ (j : Int)) = true := decide_eq_true (by omega)
        have e3 : decide ((j : Int) < (((V.s i).length : Nat) : Int)) = true := decide_eq_true (by omega)
        have j6 : Okk (run (step90 (f105 K)) (k + 1) (J90.j6 (i : Int) (j : Int) cs m.f0 m.f1 m.f2 m.f3 m.f4 m.f5 x.f0 x.f1 x.f2 x.f3)) (fun r => r.2 = cs) := by
          rw [run_succ]; simp only [step90]
          rw [wsucc (by omega)]
          exact ih (j + 1) k (by omega) (by omega)
        rw [run_succ]; simp only [step90, R.ps.okA, R.ps.rdc, e0, e1, o0, o1, o2, e2, e3, cond_true]
        exact .cnd (fun _ => .cnd (fun _ => .ret rfl) fun _ => j6) fun _ => j6
    obtain ⟨k, rfl⟩ : ∃ j, k = j + 1 := ⟨k - 1, by omega⟩
    rw [run_succ]; simp only [step90, R.ps.okR, R.ps.rdc, e1, cond_true]
    exact inner (V.s i).length 0 k (by omega) (by omega)
theorem ok90' (k : Nat) (hk : 1000 < k) (S : Sz V) (R : Rep n cs m V) (x : S76) : Okk (f90 k (cs, m, x)) (fun r => r.2 = cs) := by
  unfold f90 start90
  exact ok90 k S x 5 0 k (by omega) (by omega) R

/-- l3Peek. -/
theorem ok88 (k : Nat) (S : Sz V) (M : MOk V) (R : Rep n cs m V) {i j b : Nat} (hi : i < 5) (hj : j < (V.s i).length) (hb : b < 4) : Okk (f88 k (cs, m, (i : Int), w64 (w64 ((j : Int) * 4) + (b : Int)))) (fun r => r.2 = cs) := by
  have hi' : i < V.ps.length := by rw [S.np]; exact hi
  have h16 := S.sl i hi
  have a1 : w64 (w64 ((j : Int) * 4) + (b : Int)) = (j : Int) * 4 + (b : Int) := by rw [w64_id (x := (j : Int) * 4) (by omega) (by omega), w64_id (by omega) (by omega)]
  have a2 : w64 (Int.tdiv ((j : Int) * 4 + (b : Int)) 4) = (j : Int) := by
    rw [Int.tdiv_eq_ediv_of_nonneg (by omega), w64_id (by omega) (by omega)]; omega
  have a3 : Int.tmod ((j : Int) * 4 + (b : Int)) 4 = (b : Int) := by rw [Int.tmod_eq_emod_of_nonneg (by omega)]; omega
  have e0 : decide ((0 : Int) ≤ (i : Int)) = true := decide_eq_true (by omega)
  have e1 : decide ((i : Int) < ((V.ps.length : Nat) : Int)) = true := decide_eq_true (by omega)
  have e2 : decide ((0 : Int) ≤ (j : Int)) = true := decide_eq_true (by omega)
  have e3 : decide ((j : Int) < (((V.s i).length : Nat) : Int)) = true := decide_eq_true (by omega)
  have e4 : decide ((0 : Int) ≤ (b : Int)) = true := decide_eq_true (by omega)
  have e5 : decide ((b : Int) < ((4 : Nat) : Int)) = true := decide_eq_true (by omega)
  obtain ⟨o0, o1⟩ := R.so hi'
  rw [a1]
  unfold f88 start88
  simp only [R.ps.okA, R.ps.rdc, o0, o1, a2, a3, e0, e1, e2, e3, cond_true]
  refine .cnd (fun c => ?_) fun _ => .cnd (fun c => ?_) fun _ => .ret rfl
  · have c : (rd116 (V.s i) (j : Int)).f0 = 1 := by simpa using c
    obtain ⟨g0, g1⟩ := (M.rng i j hi hj).resolve_left (by omega)
    have u := M.u1 i j hi hj c
    obtain ⟨q, eq⟩ : ∃ q : Nat, (rd116 (V.s i) (j : Int)).f1 = q := ⟨(rd116 (V.s i) (j : Int)).f1.toNat, by omega⟩
    rw [eq] at u
    have sz := ((M.p1 q (by omega)).resolve_left fun h => u h.1).2
    have d0 : decide ((0 : Int) ≤ (q : Int)) = true := decide_eq_true (by omega)
    have d1 : decide ((q : Int) < ((V.rt.length : Nat) : Int)) = true := decide_eq_true (by rw [S.nt]; omega)
    simp only [eq, R.rt.okA, R.rt.rdc, d0, d1, e4, e5, sz, cond_true]
    exact .ret rfl
  · have c : (rd116 (V.s i) (j : Int)).f0 = 2 := by simpa using c
    obtain ⟨g0, g1⟩ := (M.rng i j hi hj).resolve_left (by omega)
    have u := M.u2 i j hi hj c
    obtain ⟨q, eq⟩ : ∃ q : Nat, (rd116 (V.s i) (j : Int)).f1 = q := ⟨(rd116 (V.s i) (j : Int)).f1.toNat, by omega⟩
    rw [eq] at u
    have sz := ((M.p2 q (by omega)).resolve_left fun h => u h.1).2
    have d0 : decide ((0 : Int) ≤ (q : Int)) = true := decide_eq_true (by omega)
    have d1 : decide ((q : Int) < ((V.st.length : Nat) : Int)) = true := decide_eq_true (by rw [S.mt]; omega)
    simp only [eq, R.st.okA, R.st.rdc, d0, d1, e4, e5, sz, cond_true]
    exact .ret rfl
end

/-! ### views -/
/-- Rows keep their kinds and lengths. -/
structure Ev (N : Nat) (cs cs' : H) : Prop where
  fr : Fr_ N cs cs'
  ty : ∀ (t q : Nat) (ys : List (TT t)), t ≠ 5 → t ≠ 74 → Hd N cs q t ys → ∃ zs : List (TT t), Hd N cs' q t zs ∧ zs.length = ys.length
  vw : ∀ (q : Nat) (ys : List (TT 74)), Hd N cs q 74 ys → Hd N cs' q 74 ys
section
variable {N : Nat} {cs cs' cs'' : H}
theorem Ev.refl (N : Nat) (cs : H) : Ev N cs cs := ⟨.refl _ _, fun t q ys _ _ h => ⟨ys, h, rfl⟩, fun _ _ h => h⟩
theorem Ev.trans (a : Ev N cs cs') (b : Ev N cs' cs'') : Ev N cs cs'' := ⟨a.fr.trans b.fr, fun t q ys h1 h2 h => by
  obtain ⟨zs, h3, e⟩ := a.ty t q ys h1 h2 h
  obtain ⟨us, h4, e2⟩ := b.ty t q zs h1 h2 h3
  exact ⟨us, h4, e2.trans e⟩, fun q ys h => b.vw q ys (a.vw q ys h)⟩
theorem Ev.app (hN : N ≤ cs.length) (c : H) : Ev N cs (cs ++ c) := ⟨.app N hN c, fun t q ys _ _ h => ⟨ys, h.app c, rfl⟩, fun q ys h => h.app c⟩
theorem Ev.set {h t : Nat} {xs ys : List (TT t)} (ht : t ≠ 74) (b : Hd N cs h t xs) (hl : ys.length = xs.length) : Ev N cs (setc cs h (.arr t ys)) := by
  refine ⟨.set (.inr b.1) _, fun t' q zs h1 h2 hq => ?_, fun q zs hq => hq.ty b (Ne.symm ht) _⟩
  by_cases e : q = h
  · subst e
    by_cases et : t' = t
    · subst et
      exact ⟨ys, b.set ys, by rw [hl, b.uni hq]⟩
    · exact absurd rfl (hq.apart b et)
  · exact ⟨zs, hq.ne e _, rfl⟩
theorem Ev.kill5 {h : Nat} {xs : List (TT 5)} (b : Hd N cs h 5 xs) (c : Cell TT) : Ev N cs (setc cs h c) := ⟨.set (.inr b.1) _, fun t' q zs h1 h2 hq => ⟨zs, hq.ty b h1 _, rfl⟩, fun q zs hq => hq.ty b (by decide) _⟩
/-- A space's meaning that may be read. -/
structure Rv (N : Nat) (cs : H) (x : S74) : Prop where
  a : ∃ xs : List (TT 76), Hz N cs x.f1 76 xs ∧ xs.length ≤ 1000
  g : ∃ xs : List (TT 3), Hz N cs x.f2 3 xs ∧ xs.length ≤ 1000
  t : ∃ xs : List (TT 9), Hz N cs x.f3 9 xs ∧ xs.length ≤ 1000
theorem Ev.hz (E : Ev N cs cs') {t q : Nat} (h5 : t ≠ 5) (h7 : t ≠ 74) (h : ∃ xs : List (TT t), Hz N cs q t xs ∧ xs.length ≤ 1000) : ∃ xs : List (TT t), Hz N cs' q t xs ∧ xs.length ≤ 1000 := by
  obtain ⟨xs, h | h, hl⟩ := h
  · exact ⟨xs, .inl h, hl⟩
  · obtain ⟨zs, h1, h2⟩ := E.ty t q xs h5 h7 h
    exact ⟨zs, h1.z, by omega⟩
theorem Rv.ev {x : S74} (h : Rv N cs x) (E : Ev N cs cs') : Rv N cs' x := ⟨E.hz (by decide) (by decide) h.a, E.hz (by decide) (by decide) h.g, E.hz (by decide) (by decide) h.t⟩
theorem Rv.zero (N : Nat) (cs : H) : Rv N cs ⟨false, 0, 0, 0⟩ := ⟨⟨[], .inl ⟨rfl, rfl⟩, by simp⟩, ⟨[], .inl ⟨rfl, rfl⟩, by simp⟩, ⟨[], .inl ⟨rfl, rfl⟩, by simp⟩⟩
/-- A meaning that may be read. -/
def Vw (N : Nat) (cs : H) (v : S45) : Prop := ∃ ps : List S74, Hz N cs v.f0 74 ps ∧ ps.length ≤ 5 ∧ ∀ x ∈ ps, Rv N cs x
theorem Vw.ev {v : S45} (h : Vw N cs v) (E : Ev N cs cs') : Vw N cs' v := by
  obtain ⟨ps, h1, h2, h3⟩ := h
  exact ⟨ps, h1.imp id fun h => E.vw _ _ h, h2, fun x hx => (h3 x hx).ev E⟩
theorem Rv.mono {M : Nat} {x : S74} (h : Rv N cs x) (hM : M ≤ N) : Rv M cs x := ⟨h.a.imp fun _ h => ⟨h.1.mono hM, h.2⟩, h.g.imp fun _ h => ⟨h.1.mono hM, h.2⟩, h.t.imp fun _ h => ⟨h.1.mono hM, h.2⟩⟩
theorem Vw.mono {M : Nat} {v : S45} (h : Vw N cs v) (hM : M ≤ N) : Vw M cs v := by
  obtain ⟨ps, h1, h2, h3⟩ := h
  exact ⟨ps, h1.mono hM, h2, fun x hx => (h3 x hx).mono hM⟩
theorem Rv.fr {x : S74} (h : Rv N cs x) (f : Fr_ cs.length cs cs') : Rv N cs' x := ⟨h.a.imp fun _ h => ⟨h.1.fr' f, h.2⟩, h.g.imp fun _ h => ⟨h.1.fr' f, h.2⟩, h.t.imp fun _ h => ⟨h.1.fr' f, h.2⟩⟩
theorem Vw.fr {v : S45} (h : Vw N cs v) (f : Fr_ cs.length cs cs') : Vw N cs' v := by
  obtain ⟨ps, h1, h2, h3⟩ := h
  exact ⟨ps, h1.fr' f, h2, fun x hx => (h3 x hx).fr f⟩
end

section
variable {m : S89} {V : MV} {cs0 : H}
noncomputable abbrev S66 (k : Nat) := step66 (f76 k) (fstO (f86 k)) (f88 k) (f89 k) (f90 k)
/-- The row of all spaces so far. -/
def Row (N : Nat) (cs : H) (o : Nat) : Prop := ∃ ps : List S74, Hd N cs o 74 ps ∧ ps.length = 5 ∧ ∀ x ∈ ps, Rv N cs x
theorem Row.ev {N : Nat} {cs cs' : H} {o : Nat} (h : Row N cs o) (E : Ev N cs cs') : Row N cs' o := by
  obtain ⟨ps, h1, h2, h3⟩ := h
  exact ⟨ps, E.vw _ _ h1, h2, fun x hx => (h3 x hx).ev E⟩
/-- The rows of the space under way. -/
structure Bld (N : Nat) (cs : H) (a g t : Nat) : Prop where
  a : ∃ xs : List (TT 76), Hd N cs a 76 xs ∧ xs.length ≤ 1000
  g : ∃ xs : List (TT 3), Hd N cs g 3 xs ∧ xs.length = 16
  t : ∃ xs : List (TT 9), Hd N cs t 9 xs ∧ xs.length = 16
theorem Bld.ev {N : Nat} {cs cs' : H} {a g t : Nat} (h : Bld N cs a g t) (E : Ev N cs cs') : Bld N cs' a g t := by
  obtain ⟨⟨x1, a1, l1⟩, ⟨x2, a2, l2⟩, ⟨x3, a3, l3⟩⟩ := h
  obtain ⟨y1, b1, e1⟩ := E.ty _ _ _ (by decide) (by decide) a1
  obtain ⟨y2, b2, e2⟩ := E.ty _ _ _ (by decide) (by decide) a2
  obtain ⟨y3, b3, e3⟩ := E.ty _ _ _ (by decide) (by decide) a3
  exact ⟨⟨y1, b1, by omega⟩, ⟨y2, b2, by omega⟩, ⟨y3, b3, by omega⟩⟩
abbrev Q66 (cs0 cs : H) (o : Nat) (r : S45 × H) : Prop := Fr_ cs0.length cs r.2 ∧ r.1 = ⟨o⟩ ∧ Row cs0.length r.2 o
theorem v14 (K : Nat) (S : Sz V) (M : MOk V) (R0 : Rep 0 cs0 m V) {i p : Nat} (hi : i < 5) (hp : p < (V.s i).length) (o : Nat) (x12 : Bool) (x13 x14 : Nat) (x15 : Bool) (x16 x17 x18 : Nat) (Q : S45 × H → Prop) (F0 : Nat)
    (nxt : ∀ (kk : Nat) (cs : H) (tb : Nat) (xs : List (TT 5)), kk ≥ F0 → Fr_ cs0.length cs0 cs → Row cs0.length cs o → Bld cs0.length cs x16 x17 x18 → Hd cs0.length cs tb 5 xs → Okk (run (S66 K) kk (J66.j14 (i : Int) (p : Int) tb 4 cs m.f0 m.f1 m.f2 m.f3 m.f4 m.f5 o x12 x13 x14 x15 x16 x17 x18)) Q) :
    ∀ (d b kk : Nat) (cs : H) (tb : Nat) (xs : List (TT 5)), b + d = 4 → kk ≥ F0 + d → xs.length = b → Fr_ cs0.length cs0 cs → Row cs0.length cs o → Bld cs0.length cs x16 x17 x18 → Hd cs0.length cs tb 5 xs →
    Okk (run (S66 K) kk (J66.j14 (i : Int) (p : Int) tb (b : Int) cs m.f0 m.f1 m.f2 m.f3 m.f4 m.f5 o x12 x13 x14 x15 x16 x17 x18)) Q
  | 0, b, kk, cs, tb, xs, h, hk, hx, F, W, B, T => by
    obtain rfl : b = 4 := by omega
    exact nxt kk cs tb xs (by omega) F W B T
  | d + 1, b, kk, cs, tb, xs, h, hk, hx, F, W, B, T => by
    obtain ⟨kk, rfl⟩ : ∃ j, kk = j + 1 := ⟨kk - 1, by omega⟩
    have R := R0.fr' F
    have e : decide ((b : Int) < 4) = true := decide_eq_true (by omega)
    rw [run_succ]; simp only [S66, step66, e, cond_true]
    refine .bnd (ok88 K S M R hi hp (b := b) (by omega)) fun r hr => ?_
    obtain ⟨v, cs1⟩ := r
    simp only at hr ⊢
    subst hr
    simp only [T.okA, T.rdc, cond_true]
    refine .chk (by simp only [List.length_cons, List.length_nil]; omega) ?_
    have hN : cs0.length ≤ cs1.length := F.le
    rw [wsucc (by omega)]
    obtain ⟨g1, g2⟩ := grow T (Nat.le_refl _) hN (Cell.arr (T := TT) 5 [IntKind.wrap .u8 v]) (xs ++ [IntKind.wrap .u8 v])
    have E : Ev cs0.length cs1 ((setc cs1 tb .dead ++ [Cell.arr (T := TT) 5 [IntKind.wrap .u8 v]]) ++ [Cell.arr (T := TT) 5 (xs ++ [IntKind.wrap .u8 v])]) := ((Ev.kill5 T .dead).trans (.app (by rw [setc_len]; exact hN) _)).trans (.app (by rw [List.length_append, setc_len]; omega) _)
    exact v14 K S M R0 hi hp o x12 x13 x14 x15 x16 x17 x18 Q F0 nxt d (b + 1) kk _ _ _ (by omega) (by omega) (by rw [List.length_append]; simp only [List.length_cons, List.length_nil]; omega) (F.trans g1) (W.ev E) (B.ev E) g2
end
end Go.Sx
