/- The plain law FnBytesSame, over what its functions compute: a part. No further condition. -/
import Derived.Test.YtecniihieninjaaSyPFnBytesSamef
set_option linter.unusedVariables false
set_option linter.unusedSimpArgs false
namespace Go.Sx
open Go.RowKit
set_option linter.unusedVariables false
set_option linter.unusedSimpArgs false
section
variable {m : S89} {V : MV} {cs0 : H}

/-- One space's meaning. -/
theorem v9 (K : Nat) (hK : 3000 < K) (S : Sz V) (M : MOk V) (R0 : Rep 0 cs0 m V) {i : Nat} (hi : i < 5) (l16 : (V.s i).length = 16) (o : Nat) (x13 : Bool) (x14 x15 x16 : Nat) (Q : S45 × H → Prop) (F0 : Nat)
    (nxt : ∀ (kk : Nat) (cs : H), kk ≥ F0 → Fr_ cs0.length cs0 cs → Row cs0.length cs o → Bld cs0.length cs x14 x15 x16 →
      Okk (run (S66 K) kk (J66.j9 (i : Int) 16 cs m.f0 m.f1 m.f2 m.f3 m.f4 m.f5 o (rd114 V.ps (i : Int)).f0 (rd114 V.ps (i : Int)).f1 (rd114 V.ps (i : Int)).f2 x13 x14 x15 x16)) Q) :
    ∀ (d p kk : Nat) (cs : H), p + d = 16 → kk ≥ F0 + 20 * d → Fr_ cs0.length cs0 cs → Row cs0.length cs o → Bld cs0.length cs x14 x15 x16 →
    Okk (run (S66 K) kk (J66.j9 (i : Int) (p : Int) cs m.f0 m.f1 m.f2 m.f3 m.f4 m.f5 o (rd114 V.ps (i : Int)).f0 (rd114 V.ps (i : Int)).f1 (rd114 V.ps (i : Int)).f2 x13 x14 x15 x16)) Q
  | 0, p, kk, cs, h, hk, F, W, B => by
    obtain rfl : p = 16 := by omega
    exact nxt kk cs (by omega) F W B
  | d + 1, p, kk, cs, h, hk, F, W, B => by
    obtain ⟨kk, rfl⟩ : ∃ j, kk = j + 1 := ⟨kk - 1, by omega⟩
    have R := R0.fr' F
    have hi' : i < V.ps.length := by rw [S.np]; exact hi
    have hp : p < (V.s i).length := by omega
    have e : decide ((p : Int) < 16) = true := decide_eq_true (by omega)
    have hN : cs0.length ≤ cs.length := F.le
    have e2 : decide ((0 : Int) ≤ (p : Int)) = true := decide_eq_true (by omega)
    have e3 : decide ((p : Int) < (((V.s i).length : Nat) : Int)) = true := decide_eq_true (by omega)
    have a7 := S.al i hi
    have j10 : ∀ (k2 : Nat) (cs2 : H), k2 ≥ F0 + 20 * d + 1 → Fr_ cs0.length cs0 cs2 → Row cs0.length cs2 o → Bld cs0.length cs2 x14 x15 x16 → Okk (run (S66 K) k2 (J66.j10 (i : Int) (p : Int) cs2 m.f0 m.f1 m.f2 m.f3 m.f4 m.f5 o (rd114 V.ps (i : Int)).f0 (rd114 V.ps (i : Int)).f1 (rd114 V.ps (i : Int)).f2 x13 x14 x15 x16)) Q := by
      intro k2 cs2 hk2 F W B
      obtain ⟨k2, rfl⟩ : ∃ j, k2 = j + 1 := ⟨k2 - 1, by omega⟩
      rw [run_succ]; simp only [S66, step66]
      rw [wsucc (by omega)]
      exact v9 K hK S M R0 hi l16 o x13 x14 x15 x16 Q F0 nxt d (p + 1) k2 cs2 (by omega) (by omega) F W B
    rw [run_succ]; simp only [S66, step66, e, cond_true]
    refine .bnd (ok76' K (by omega) (ha := (rd114 V.ps (i : Int)).f1) (R.al i hi') (by omega) (p : Int)) fun r hr => ?_
    obtain ⟨at_, cs1⟩ := r
    obtain ⟨ec, _⟩ := hr
    simp only at ec ⊢
    have ec := ec.symm
    subst ec
    refine .cnd (fun _ => j10 _ cs (by omega) F W B) fun _ => ?_
    have E0 : Ev cs0.length cs (cs ++ [Cell.arr (T := TT) 5 ([] : List Int)]) := .app hN _
    refine v14 K S M R0 hi hp o _ _ _ x13 x14 x15 x16 Q (F0 + 20 * d + 10) ?_ 4 0 kk (cs ++ [Cell.arr (T := TT) 5 ([] : List Int)]) (cs.length + 1) [] (by omega) (by omega) rfl (F.trans E0.fr) (W.ev E0) (B.ev E0) (.new (t := 5) hN _)
    intro kk cs2 tb xs hk2 F2 W2 B2 T2
    obtain ⟨kk, rfl⟩ : ∃ j, kk = j + 2 := ⟨kk - 2, by omega⟩
    obtain ⟨zs, hz, lz⟩ := B2.t
    have e4 : decide ((p : Int) < ((zs.length : Nat) : Int)) = true := decide_eq_true (by omega)
    have e5 : decide ((4 : Int) < 4) = false := rfl
    rw [run_succ]; simp only [step66, e5, cond_false, T2.okA, T2.rdc, hz.okA, hz.rdc, e2, e4, cond_true, setc2, Int.toNat_natCast]
    have E3 : Ev cs0.length cs2 (setc cs2 x16 (.arr 9 (zs.set p (strOfNums (List.map (fun x => x) xs))))) := .set (by decide) hz (by rw [List.length_set])
    generalize hc3 : setc cs2 x16 (Cell.arr (T := TT) 9 (zs.set p (strOfNums (List.map (fun x => x) xs)))) = cs3 at E3
    have F3 := F2.trans E3.fr
    have R3 := R0.fr' F3
    refine .bnd (ok89 K (by omega) (x := ⟨(rd114 V.ps (i : Int)).f0, (rd114 V.ps (i : Int)).f1, (rd114 V.ps (i : Int)).f2⟩) (R3.al i hi') (by omega) (p : Int)) fun r hr => ?_
    obtain ⟨b, cs4⟩ := r
    simp only at hr ⊢
    subst hr
    have out := j10 (kk + 1) cs4 (by omega) F3 (W2.ev E3) (B2.ev E3)
    obtain ⟨o0, o1⟩ := R3.so hi'
    refine .cnd (fun _ => ?_) fun _ => out
    simp only [o0, o1, e2, e3, cond_true]
    refine .cnd (fun _ => ?_) fun _ => out
    refine .bnd (ok86' K (by omega) S R3 _ _) fun r hr => ?_
    refine .cnd (fun _ => ?_) fun _ => out
    obtain ⟨gs, hg, lg⟩ := (B2.ev E3).g
    have e6 : decide ((p : Int) < ((gs.length : Nat) : Int)) = true := decide_eq_true (by omega)
    rw [run_succ]; simp only [step66, o0, o1, e2, e3, cond_true]
    refine .bnd (ok90' K (by omega) S R3 _) fun r hr => ?_
    obtain ⟨g, cs5⟩ := r
    simp only at hr ⊢
    have hr := hr.symm
    subst hr
    simp only [hg.okA, hg.rdc, e2, e6, cond_true, setc2, Int.toNat_natCast]
    have E4 : Ev cs0.length cs4 (setc cs4 x15 (.arr 3 (gs.set p g))) := .set (by decide) hg (by rw [List.length_set])
    exact j10 kk _ (by omega) (F3.trans E4.fr) ((W2.ev E3).ev E4) ((B2.ev E3).ev E4)

theorem v3 (K : Nat) (hK : 3000 < K) (S : Sz V) (M : MOk V) (R0 : Rep 0 cs0 m V) (o : Nat) : ∀ (d i kk : Nat) (cs : H), i + d = 5 → kk ≥ 400 * d + 1 → Fr_ cs0.length cs0 cs → Row cs0.length cs o →
    Okk (run (S66 K) kk (J66.j3 (i : Int) cs m.f0 m.f1 m.f2 m.f3 m.f4 m.f5 o)) (fun r => Fr_ cs0.length cs0 r.2 ∧ r.1 = ⟨o⟩ ∧ Row cs0.length r.2 o)
  | 0, i, kk, cs, h, hk, F, W => by
    obtain ⟨kk, rfl⟩ : ∃ j, kk = j + 1 := ⟨kk - 1, by omega⟩
    have e : decide ((i : Int) < 5) = false := decide_eq_false (by omega)
    rw [run_succ]; simp only [S66, step66, e]
    exact .ret ⟨F, rfl, W⟩
  | d + 1, i, kk, cs, h, hk, F, W => by
    obtain ⟨kk, rfl⟩ : ∃ j, kk = j + 1 := ⟨kk - 1, by omega⟩
    have R := R0.fr' F
    have hi : i < 5 := by omega
    have hi' : i < V.ps.length := by rw [S.np]; exact hi
    have e : decide ((i : Int) < 5) = true := decide_eq_true (by omega)
    have e0 : decide ((0 : Int) ≤ (i : Int)) = true := decide_eq_true (by omega)
    have e1 : decide ((i : Int) < ((V.ps.length : Nat) : Int)) = true := decide_eq_true (by omega)
    have hN : cs0.length ≤ cs.length := F.le
    have a7 := S.al i hi
    have j4 : ∀ (k2 : Nat) (cs2 : H), k2 ≥ 400 * d + 2 → Fr_ cs0.length cs0 cs2 → Row cs0.length cs2 o → Okk (run (S66 K) k2 (J66.j4 (i : Int) cs2 m.f0 m.f1 m.f2 m.f3 m.f4 m.f5 o)) (fun r => Fr_ cs0.length cs0 r.2 ∧ r.1 = ⟨o⟩ ∧ Row cs0.length r.2 o) := by
      intro k2 cs2 hk2 F W
      obtain ⟨k2, rfl⟩ : ∃ j, k2 = j + 1 := ⟨k2 - 1, by omega⟩
      rw [run_succ]; simp only [S66, step66]
      rw [wsucc (by omega)]
      exact v3 K hK S M R0 o d (i + 1) k2 cs2 (by omega) (by omega) F W
    rw [run_succ]; simp only [S66, step66, e, R.ps.okA, R.ps.rdc, e0, e1, cond_true]
    refine .cnd (fun _ => j4 _ cs (by omega) F W) fun c => ?_
    have c : (V.p i).f0 = true := by simpa [MV.p] using c
    have l16 := M.live i hi c
    have o0 : okA 76 cs (rd114 V.ps (i : Int)).f1 = true := (R.al i hi').okA
    have o1 : rdc 76 cs (rd114 V.ps (i : Int)).f1 = V.a i := (R.al i hi').rdc
    simp only [o0, o1, cond_true, List.nil_append]
    refine .chk (by simp only [List.length_nil]; omega) ?_
    have A1 : Hd cs0.length (cs ++ [Cell.arr (T := TT) 76 (V.a i)]) (cs.length + 1) 76 (V.a i) := .new (t := 76) hN _
    have E1 : Ev cs0.length cs (cs ++ [Cell.arr (T := TT) 76 (V.a i)]) := .app hN _
    generalize hc1 : cs ++ [Cell.arr (T := TT) 76 (V.a i)] = c1 at A1 E1
    have h1 : cs0.length ≤ c1.length := Nat.le_trans hN E1.fr.le
    have A2 : Hd cs0.length (c1 ++ [Cell.arr (T := TT) 3 (List.replicate 16 (0 : Int))]) (c1.length + 1) 3 (List.replicate 16 (0 : Int)) := .new (t := 3) h1 _
    have E2 : Ev cs0.length c1 (c1 ++ [Cell.arr (T := TT) 3 (List.replicate 16 (0 : Int))]) := .app h1 _
    generalize hc2 : c1 ++ [Cell.arr (T := TT) 3 (List.replicate 16 (0 : Int))] = c2 at A2 E2
    have h2 : cs0.length ≤ c2.length := Nat.le_trans h1 E2.fr.le
    have A3 : Hd cs0.length (c2 ++ [Cell.arr (T := TT) 9 (List.replicate 16 (⟨#[]⟩ : ByteArray))]) (c2.length + 1) 9 (List.replicate 16 (⟨#[]⟩ : ByteArray)) := .new (t := 9) h2 _
    have E3 : Ev cs0.length c2 (c2 ++ [Cell.arr (T := TT) 9 (List.replicate 16 (⟨#[]⟩ : ByteArray))]) := .app h2 _
    generalize hc3 : c2 ++ [Cell.arr (T := TT) 9 (List.replicate 16 (⟨#[]⟩ : ByteArray))] = c3 at A3 E3
    have E := (E1.trans E2).trans E3
    have B : Bld cs0.length c3 (cs.length + 1) (c1.length + 1) (c2.length + 1) := by
      obtain ⟨y1, b1, l1⟩ := (E2.trans E3).ty _ _ _ (by decide) (by decide) A1
      obtain ⟨y2, b2, l2⟩ := E3.ty _ _ _ (by decide) (by decide) A2
      exact ⟨⟨y1, b1, by omega⟩, ⟨y2, b2, by rw [l2]; simp⟩, ⟨_, A3, by simp⟩⟩
    refine v9 K hK S M R0 hi l16 o true (cs.length + 1) (c1.length + 1) (c2.length + 1) _ (400 * d + 10) ?_ 16 0 kk c3 (by omega) (by omega) (F.trans E.fr) (W.ev E) B
    intro kk cs2 hk2 F2 W2 B2
    obtain ⟨kk, rfl⟩ : ∃ j, kk = j + 1 := ⟨kk - 1, by omega⟩
    obtain ⟨ps, hp, lp, hr⟩ := W2
    have e5 : decide ((16 : Int) < 16) = false := rfl
    have e6 : decide ((i : Int) < ((ps.length : Nat) : Int)) = true := decide_eq_true (by omega)
    rw [run_succ]; simp only [S66, step66, e5, cond_false, hp.okA, hp.rdc, e0, e6, cond_true, setc2, Int.toNat_natCast]
    have f2 : Fr_ cs0.length cs2 (setc cs2 o (.arr 74 (ps.set i ⟨true, cs.length + 1, c1.length + 1, c2.length + 1⟩))) := .set (.inr hp.1) _
    refine j4 kk _ (by omega) (F2.trans f2) ⟨_, hp.set _, by rw [List.length_set]; exact lp, fun x hx => ?_⟩
    have keep : ∀ y, Rv cs0.length cs2 y → Rv cs0.length (setc cs2 o (.arr 74 (ps.set i ⟨true, cs.length + 1, c1.length + 1, c2.length + 1⟩))) y := fun y h => ⟨h.a.imp fun _ h => ⟨h.1.ty hp (by decide) _, h.2⟩, h.g.imp fun _ h => ⟨h.1.ty hp (by decide) _, h.2⟩, h.t.imp fun _ h => ⟨h.1.ty hp (by decide) _, h.2⟩⟩
    refine keep x ?_
    rcases List.mem_or_eq_of_mem_set hx with h | rfl
    · exact hr x h
    · obtain ⟨⟨x1, a1, l1⟩, ⟨x2, a2, l2⟩, ⟨x3, a3, l3⟩⟩ := B2
      exact ⟨⟨x1, a1.z, l1⟩, ⟨x2, a2.z, by omega⟩, ⟨x3, a3.z, by omega⟩⟩
/-- l4Of. -/
theorem ok66 (k : Nat) (hk : 3000 < k) {n : Nat} (S : Sz V) (M : MOk V) (R : Rep n cs0 m V) : Okk (f66 k (cs0, m)) (fun r => Fr_ cs0.length cs0 r.2 ∧ Vw cs0.length r.2 r.1) := by
  unfold f66 start66
  have W : Row cs0.length (cs0 ++ [Cell.arr (T := TT) 74 (List.replicate 5 (⟨false, 0, 0, 0⟩ : S74))]) (cs0.length + 1) := ⟨List.replicate 5 ⟨false, 0, 0, 0⟩, .new (t := 74) (Nat.le_refl _) _, rfl, fun x hx => by rw [List.eq_of_mem_replicate hx]; exact .zero _ _⟩
  refine (v3 k hk S M (R.mono (Nat.zero_le n)) (cs0.length + 1) 5 0 k (cs0 ++ [Cell.arr (T := TT) 74 (List.replicate 5 (⟨false, 0, 0, 0⟩ : S74))]) (by omega) (by omega) (.app' _) W).mono fun r hr => ?_
  obtain ⟨h1, h2, ps, h3, h4, h5⟩ := hr
  refine ⟨h1, ps, ?_, by omega, h5⟩
  rw [h2]; exact h3.z
/-- BytesOfMem. -/
theorem ok54 (k : Nat) (hk : 3000 < k) {n : Nat} (h : Mm n cs0 m) : Okk (f54 k (cs0, m)) (fun r => Fr_ cs0.length cs0 r.2 ∧ Vw cs0.length r.2 r.1.1) := by
  have zero : ∀ cs : H, Vw cs0.length cs ⟨0⟩ := fun cs => ⟨[], .inl ⟨rfl, rfl⟩, by simp, fun x hx => by simp at hx⟩
  unfold f54 start54
  rcases h with ⟨V, R, S⟩ | ⟨rt, rr, st, sr, ys, h1, h2, h3, h4, l1, l2, l3, l4, hf, hy, ly⟩
  · refine .bnd (ok65 k hk S R) fun r hr => ?_
    obtain ⟨b, cs1⟩ := r
    obtain ⟨e, hm, _⟩ := hr
    simp only at e hm ⊢
    have e := e.symm
    subst e
    refine .cnd (fun _ => .ret ⟨.refl _ _, zero _⟩) fun c => ?_
    exact .bnd (ok66 k hk S (hm (by simpa using c)) R) fun r hr => .ret hr
  · refine .bnd (P := fun r => r.2 = cs0 ∧ r.1 = false) ?_ fun r hr => ?_
    · unfold f65 start65
      refine .bnd (ok84' k (by omega) (p := ⟨m.f0, m.f1⟩) h1 h2 l1 l2) fun r hr => ?_
      obtain ⟨r1, r2⟩ := r
      obtain ⟨e2, _⟩ := hr
      simp only at e2 ⊢
      have e2 := e2.symm
      subst e2
      refine .cnd (fun _ => .ret ⟨rfl, rfl⟩) fun _ => ?_
      refine .bnd (ok84' k (by omega) (p := ⟨m.f2, m.f3⟩) h3 h4 l3 l4) fun r hr => ?_
      obtain ⟨r1, r3⟩ := r
      obtain ⟨e2, _⟩ := hr
      simp only at e2 ⊢
      have e2 := e2.symm
      subst e2
      refine .cnd (fun _ => .ret ⟨rfl, rfl⟩) fun _ => ?_
      obtain ⟨q1, q2⟩ := frz_okR (t := 114) (cs := cs0) (ys := ys) (show 0 < m.f4 by omega) hy
      simp only [h2.okR, h2.rdc, h4.okR, h4.rdc, q1, q2, l2, l4, ly, cond_true]
      exact .cnd (fun w => by cases w) fun _ => .cnd (fun w => by cases w) fun _ => .cnd (fun _ => .ret ⟨rfl, rfl⟩) fun w => by cases w
    · obtain ⟨b, cs1⟩ := r
      obtain ⟨e, eb⟩ := hr
      simp only at e eb ⊢
      have e := e.symm
      subst e
      subst eb
      exact .cnd (fun _ => .ret ⟨.refl _ _, zero _⟩) fun w => by cases w
end
end Go.Sx
namespace Go.Sx
open Go.RowKit
set_option linter.unusedVariables false
set_option linter.unusedSimpArgs false

theorem rd74_mem {l : List S74} {i : Nat} (h : i < l.length) : rd74 l (i : Int) ∈ l := by rw [rd74_at h]; exact List.getElem_mem h
theorem rd74_app {l : List S74} {x : S74} {a : Nat} : rd74 (l ++ [x]) (a : Int) = if a < l.length then rd74 l (a : Int) else if a = l.length then x else ⟨false, 0, 0, 0⟩ := by
  unfold rd74
  simp only [Int.toNat_natCast, List.getD_eq_getElem?_getD]
  by_cases h : a < l.length
  · rw [if_pos h, List.getElem?_append_left h]
  · rw [if_neg h, List.getElem?_append_right (by omega)]
    by_cases h2 : a = l.length
    · subst h2; simp
    · rw [if_neg h2]
      obtain ⟨q, hq⟩ : ∃ q, a - l.length = q + 1 := ⟨a - l.length - 1, by omega⟩
      rw [hq]; rfl
/-- What a space's rows hold. -/
structure Cn (N : Nat) (cs : H) (x : S74) (A : List (TT 76)) (G : List (TT 3)) (Tx : List (TT 9)) : Prop where
  a : Hz N cs x.f1 76 A
  g : Hz N cs x.f2 3 G
  t : Hz N cs x.f3 9 Tx
  la : A.length ≤ 1000
  lg : G.length ≤ 1000
  lt : Tx.length ≤ 1000
section
variable {N : Nat} {cs cs0 : H}
theorem Rv.cn {x : S74} (h : Rv N cs x) : ∃ A G Tx, Cn N cs x A G Tx := by
  obtain ⟨⟨A, h1, l1⟩, ⟨G, h2, l2⟩, ⟨Tx, h3, l3⟩⟩ := h
  exact ⟨A, G, Tx, h1, h2, h3, l1, l2, l3⟩
theorem Cn.rv {x : S74} {A G Tx} (h : Cn N cs x A G Tx) : Rv N cs x := ⟨⟨A, h.a, h.la⟩, ⟨G, h.g, h.lg⟩, ⟨Tx, h.t, h.lt⟩⟩
theorem Cn.fr' {x : S74} {A G Tx} (h : Cn N cs x A G Tx) {cs' : H} (f : Fr_ cs.length cs cs') : Cn N cs' x A G Tx := ⟨h.a.fr' f, h.g.fr' f, h.t.fr' f, h.la, h.lg, h.lt⟩

/-- l4Who. -/
theorem ok73 (k : Nat) (hk : 3000 < k) {v : S45} {ps : List S74} (hp : Hz N cs v.f0 74 ps) (hl : ps.length ≤ 5) (hr : ∀ x ∈ ps, Rv N cs x) (w : Int) :
    Okk (f73 k (cs, v, w)) (fun r => r.2 = cs ∧ (r.1 = true → ∃ q : Nat, q < ps.length ∧ w = (q : Int) ∧ ∀ A G Tx, Cn N cs (rd74 ps (q : Int)) A G Tx → Tx.length = 16 ∧ G.length = 16)) := by
  have no : Okk (some ((false, cs) : Bool × H)) (fun r => r.2 = cs ∧ (r.1 = true → ∃ q : Nat, q < ps.length ∧ w = (q : Int) ∧ ∀ A G Tx, Cn N cs (rd74 ps (q : Int)) A G Tx → Tx.length = 16 ∧ G.length = 16)) := .ret ⟨rfl, fun h => by cases h⟩
  unfold f73 start73
  simp only [hp.okR, hp.okA, hp.rdc, cond_true, ok31, Option.bind_some]
  rw [w64_id (x := ((ps.length : Nat) : Int) - 1) (by omega) (by omega)]
  refine .cnd (fun c => ?_) fun _ => no
  rw [Bool.and_eq_true] at c
  have c1 := of_decide_eq_true c.1
  have c2 := of_decide_eq_true c.2
  obtain ⟨q, rfl⟩ : ∃ q : Nat, w = q := ⟨w.toNat, by omega⟩
  have hq : q < ps.length := by omega
  have e0 : decide ((0 : Int) ≤ (q : Int)) = true := decide_eq_true (by omega)
  have e1 : decide ((q : Int) < ((ps.length : Nat) : Int)) = true := decide_eq_true (by omega)
  obtain ⟨A, G, Tx, C⟩ := (hr _ (rd74_mem hq)).cn
  simp only [e0, e1, cond_true, C.t.okR, C.t.rdc, C.g.okR, C.g.rdc]
  refine .cnd (fun _ => .cnd (fun c3 => .cnd (fun c4 => ?_) fun _ => no) fun _ => no) fun _ => no
  have c3 : ((Tx.length : Nat) : Int) = 16 := by simpa using c3
  have c4 : ((G.length : Nat) : Int) = 16 := by simpa using c4
  refine .bnd (ok102' k hk C.a C.la) fun r hr => ?_
  obtain ⟨b, cs1⟩ := r
  obtain ⟨e, _⟩ := hr
  simp only at e ⊢
  have e := e.symm
  subst e
  refine .ret ⟨rfl, fun _ => ⟨q, hq, rfl, fun A' G' T' C' => ?_⟩⟩
  have h1 := C.t.rdc.symm.trans C'.t.rdc
  have h2 := C.g.rdc.symm.trans C'.g.rdc
  constructor
  · rw [← h1]; omega
  · rw [← h2]; omega

/-- l4Copy. -/
structure Cq (M : Nat) (cs : H) (n : Nat) (A : Nat → List (TT 76)) (G : Nat → List (TT 3)) (Tx : Nat → List (TT 9)) (ps : List S74) : Prop where
  len : ps.length = n
  a : ∀ i, i < n → Hd M cs (rd74 ps (i : Int)).f1 76 (A i)
  g : ∀ i, i < n → Hd M cs (rd74 ps (i : Int)).f2 3 (G i)
  t : ∀ i, i < n → Hd M cs (rd74 ps (i : Int)).f3 9 (Tx i)
theorem Cq.up {M n : Nat} {cs cs' : H} {A G Tx} {ps : List S74} (C : Cq M cs n A G Tx ps) (h : ∀ t q (ys : List (TT t)), t ≠ 74 → Hd M cs q t ys → Hd M cs' q t ys) : Cq M cs' n A G Tx ps := ⟨C.len, fun i hi => h _ _ _ (by decide) (C.a i hi), fun i hi => h _ _ _ (by decide) (C.g i hi), fun i hi => h _ _ _ (by decide) (C.t i hi)⟩
theorem ok75 {v : Nat} {ps : List S74} (hp : Hz 0 cs0 v 74 ps) (hl : ps.length ≤ 5) (A : Nat → List (TT 76)) (G : Nat → List (TT 3)) (Tx : Nat → List (TT 9)) (hC : ∀ i : Nat, i < ps.length → Cn 0 cs0 (rd74 ps (i : Int)) (A i) (G i) (Tx i)) :
    ∀ (d i k : Nat) (cs : H) (o : Nat) (qs : List S74), i + d = ps.length → d < k → Fr_ cs0.length cs0 cs → Hd cs0.length cs o 74 qs → Cq cs0.length cs i A G Tx qs →
    Okk (run step75 k (J75.j3 (i : Int) cs v o)) (fun r => Fr_ cs0.length cs0 r.2 ∧ ∃ qs, Hd cs0.length r.2 r.1.f0 74 qs ∧ Cq cs0.length r.2 ps.length A G Tx qs)
  | d, i, 0, cs, o, qs, h, hk, F, O, C => by omega
  | 0, i, k + 1, cs, o, qs, h, hk, F, O, C => by
    have P := hp.fr' F
    have e : decide ((i : Int) < ((ps.length : Nat) : Int)) = false := decide_eq_false (by omega)
    rw [run_succ]; simp only [step75, P.okR, P.rdc, e, cond_true, cond_false]
    obtain rfl : i = ps.length := by omega
    exact .ret ⟨F, qs, O, C⟩
  | d + 1, i, k + 1, cs, o, qs, h, hk, F, O, C => by
    have P := hp.fr' F
    have hi : i < ps.length := by omega
    have Ci := (hC i hi).fr' F
    have e0 : decide ((0 : Int) ≤ (i : Int)) = true := decide_eq_true (by omega)
    have e1 : decide ((i : Int) < ((ps.length : Nat) : Int)) = true := decide_eq_true (by omega)
    have hN : cs0.length ≤ cs.length := F.le
    have A1 : Hd cs0.length (cs ++ [Cell.arr (T := TT) 76 (A i)]) (cs.length + 1) 76 (A i) := .new (t := 76) hN _
    have g1 := Ci.g.app [Cell.arr (T := TT) 76 (A i)]
    have t1 := (Ci.t.app [Cell.arr (T := TT) 76 (A i)]).app [Cell.arr (T := TT) 3 (G i)]
    have O3 := ((O.app [Cell.arr (T := TT) 76 (A i)]).app [Cell.arr (T := TT) 3 (G i)]).app [Cell.arr (T := TT) 9 (Tx i)]
    rw [run_succ]; simp only [step75, P.okA, P.okR, P.rdc, e0, e1, cond_true, Ci.a.okA, Ci.a.rdc, List.nil_append, g1.okA, g1.rdc, t1.okA, t1.rdc, O3.okA, O3.rdc]
    have l1 := Ci.la
    have l2 := Ci.lg
    have l3 := Ci.lt
    refine .chk (by simp only [List.length_nil]; omega) (.chk (by simp only [List.length_nil]; omega) (.chk (by simp only [List.length_nil]; omega) (.chk (by simp only [List.length_cons, List.length_nil]; rw [C.len]; omega) ?_)))
    rw [wsucc (by omega)]
    generalize hc1 : cs ++ [Cell.arr (T := TT) 76 (A i)] = c1 at A1 g1 t1 O3
    have n1 : cs0.length ≤ c1.length := by rw [← hc1]; simp; omega
    have B1 : Hd cs0.length (c1 ++ [Cell.arr (T := TT) 3 (G i)]) (c1.length + 1) 3 (G i) := .new (t := 3) n1 _
    have A2 := A1.app [Cell.arr (T := TT) 3 (G i)]
    have f1 : Fr_ cs.length cs c1 := by rw [← hc1]; exact .app' _
    have f2 : Fr_ c1.length c1 (c1 ++ [Cell.arr (T := TT) 3 (G i)]) := .app' _
    generalize hc2 : c1 ++ [Cell.arr (T := TT) 3 (G i)] = c2 at B1 A2 t1 O3 f2
    have n2 : cs0.length ≤ c2.length := by rw [← hc2]; simp; omega
    have D1 : Hd cs0.length (c2 ++ [Cell.arr (T := TT) 9 (Tx i)]) (c2.length + 1) 9 (Tx i) := .new (t := 9) n2 _
    have A3 := A2.app [Cell.arr (T := TT) 9 (Tx i)]
    have B2 := B1.app [Cell.arr (T := TT) 9 (Tx i)]
    have f3 : Fr_ c2.length c2 (c2 ++ [Cell.arr (T := TT) 9 (Tx i)]) := .app' _
    generalize hc3 : c2 ++ [Cell.arr (T := TT) 9 (Tx i)] = c3 at D1 A3 B2 O3 f3
    have f : Fr_ cs.length cs c3 := (f1.trans (f2.mono f1.le)).trans (f3.mono (Nat.le_trans f1.le f2.le))
    have n3 : cs0.length ≤ c3.length := by rw [← hc3]; simp; omega
    have C3 : Cq cs0.length c3 (i + 1) A G Tx (qs ++ [⟨(rd74 ps (i : Int)).f0, cs.length + 1, c1.length + 1, c2.length + 1⟩]) := by
      have e : ∀ a, a < i → rd74 (qs ++ [⟨(rd74 ps (i : Int)).f0, cs.length + 1, c1.length + 1, c2.length + 1⟩]) (a : Int) = rd74 qs (a : Int) := fun a ha => by rw [rd74_app, if_pos (by rw [C.len]; exact ha)]
      have e2 : rd74 (qs ++ [⟨(rd74 ps (i : Int)).f0, cs.length + 1, c1.length + 1, c2.length + 1⟩]) (i : Int) = ⟨(rd74 ps (i : Int)).f0, cs.length + 1, c1.length + 1, c2.length + 1⟩ := by rw [rd74_app, if_neg (by rw [C.len]; omega), if_pos C.len.symm]
      refine ⟨by simp [C.len], fun a ha => ?_, fun a ha => ?_, fun a ha => ?_⟩ <;> by_cases c : a < i
      · rw [e a c]; exact (C.a a c).fr' f
      · obtain rfl : a = i := by omega
        rw [e2]; exact A3
      · rw [e a c]; exact (C.g a c).fr' f
      · obtain rfl : a = i := by omega
        rw [e2]; exact B2
      · rw [e a c]; exact (C.t a c).fr' f
      · obtain rfl : a = i := by omega
        rw [e2]; exact D1
    obtain ⟨w1, w2⟩ := grow O3 (Nat.le_refl _) n3 (Cell.arr (T := TT) 74 [(⟨(rd74 ps (i : Int)).f0, cs.length + 1, c1.length + 1, c2.length + 1⟩ : S74)]) (qs ++ [(⟨(rd74 ps (i : Int)).f0, cs.length + 1, c1.length + 1, c2.length + 1⟩ : S74)])
    exact ok75 hp hl A G Tx hC d (i + 1) k _ _ _ (by omega) (by omega) ((F.trans (f.mono hN)).trans w1) w2 (C3.up fun t q ys ht h => ((h.ty O3 ht _).app _).app _)
theorem ok75' (k : Nat) (hk : 100 < k) {v : Nat} {ps : List S74} (hp : Hz 0 cs0 v 74 ps) (hl : ps.length ≤ 5) (A : Nat → List (TT 76)) (G : Nat → List (TT 3)) (Tx : Nat → List (TT 9)) (hC : ∀ i : Nat, i < ps.length → Cn 0 cs0 (rd74 ps (i : Int)) (A i) (G i) (Tx i)) :
    Okk (f75 k (cs0, ⟨v⟩)) (fun r => Fr_ cs0.length cs0 r.2 ∧ ∃ qs, Hd cs0.length r.2 r.1.f0 74 qs ∧ Cq cs0.length r.2 ps.length A G Tx qs) := by
  unfold f75 start75
  exact ok75 hp hl A G Tx hC ps.length 0 k _ _ [] (by omega) (by omega) (.app' _) (.new (t := 74) (Nat.le_refl _) _) ⟨rfl, fun i h => by omega, fun i h => by omega, fun i h => by omega⟩

/-- BytesSet. -/
noncomputable abbrev S56 (k : Nat) := step56 (f31 k) (f73 k) (f74 k) (f75 k) (f76 k) (f77 k)
theorem w14 (K : Nat) {a7 : Bool} {a6 a8 a9 : Nat} {g : List (TT 3)} (hg : Hz 0 cs0 a8 3 g) (page : Nat) (hpg : page < g.length) (tx : ByteArray) (o : Nat) : ∀ (e i k : Nat) (cs : H) (ps : List S74), i + e = ps.length → 5000 * e + 2 ≤ k → Fr_ cs0.length cs0 cs → Hd cs0.length cs o 74 ps → ps.length ≤ 5 → (∀ x ∈ ps, Rv cs0.length cs x) →
    Okk (run (S56 K) k (J56.j14 (page : Int) tx (i : Int) cs o a7 a6 a8 a9)) (fun r => Fr_ cs0.length cs0 r.2 ∧ Vw cs0.length r.2 r.1.1)
  | 0, i, k, cs, ps, h, hk, F, O, h5, hr => by
    obtain ⟨k, rfl⟩ : ∃ j, k = j + 1 := ⟨k - 1, by omega⟩
    have e : decide ((i : Int) < ((ps.length : Nat) : Int)) = false := decide_eq_false (by omega)
    rw [run_succ]; simp only [S56, step56, O.okR, O.rdc, e, cond_true, cond_false]
    exact .ret ⟨F, ps, O.z, h5, hr⟩
  | e + 1, i, k, cs, ps, h, hk, F, O, h5, hr => by
    have hi : i < ps.length := by omega
    have e0 : decide ((0 : Int) ≤ (i : Int)) = true := decide_eq_true (by omega)
    have e1 : decide ((i : Int) < ((ps.length : Nat) : Int)) = true := decide_eq_true (by omega)
    have p0 : decide ((0 : Int) ≤ (page : Int)) = true := decide_eq_true (by omega)
    have p1 : decide ((page : Int) < ((g.length : Nat) : Int)) = true := decide_eq_true (by omega)
    have j15 : ∀ (k : Nat) (cs : H), 5000 * e + 3 ≤ k → Fr_ cs0.length cs0 cs → Hd cs0.length cs o 74 ps → (∀ x ∈ ps, Rv cs0.length cs x) → Okk (run (S56 K) k (J56.j15 (page : Int) tx (i : Int) cs o a7 a6 a8 a9)) (fun r => Fr_ cs0.length cs0 r.2 ∧ Vw cs0.length r.2 r.1.1) := by
      intro k cs hk F O hr
      obtain ⟨k, rfl⟩ : ∃ j, k = j + 1 := ⟨k - 1, by omega⟩
      rw [run_succ]; simp only [S56, step56]
      rw [wsucc (by omega)]
      exact w14 K hg page hpg tx o e (i + 1) k cs ps (by omega) (by omega) F O h5 hr
    have inner : ∀ (d j k : Nat) (cs : H), j + d = 1000 → 4 * d + 5000 * e + 10 ≤ k → Fr_ cs0.length cs0 cs → Hd cs0.length cs o 74 ps → (∀ x ∈ ps, Rv cs0.length cs x) → Okk (run (S56 K) k (J56.j17 (page : Int) tx (i : Int) (j : Int) cs o a7 a6 a8 a9)) (fun r => Fr_ cs0.length cs0 r.2 ∧ Vw cs0.length r.2 r.1.1) := by
      intro d
      induction d with
      | zero =>
        intro j k cs hd hk F O hr
        obtain ⟨k, rfl⟩ : ∃ j, k = j + 1 := ⟨k - 1, by omega⟩
        obtain ⟨A, G, Tx, C⟩ := (hr _ (rd74_mem hi)).cn
        have lg := C.lg
        have e3 : decide ((j : Int) < ((G.length : Nat) : Int)) = false := decide_eq_false (by omega)
        rw [run_succ]; simp only [S56, step56, O.okA, O.rdc, e0, e1, C.g.okR, C.g.rdc, e3, cond_true, cond_false]
        exact j15 _ _ (by omega) F O hr
      | succ d ih =>
        intro j k cs hd hk F O hr
        obtain ⟨k, rfl⟩ : ∃ j, k = j + 4 := ⟨k - 4, by omega⟩
        obtain ⟨A, G, Tx, C⟩ := (hr _ (rd74_mem hi)).cn
        have j18 : ∀ (k : Nat) (cs : H), 4 * d + 5000 * e + 11 ≤ k → Fr_ cs0.length cs0 cs → Hd cs0.length cs o 74 ps → (∀ x ∈ ps, Rv cs0.length cs x) → Okk (run (S56 K) k (J56.j18 (page : Int) tx (i : Int) (j : Int) cs o a7 a6 a8 a9)) (fun r => Fr_ cs0.length cs0 r.2 ∧ Vw cs0.length r.2 r.1.1) := by
          intro k cs hk F O hr
          obtain ⟨k, rfl⟩ : ∃ j, k = j + 1 := ⟨k - 1, by omega⟩
          rw [run_succ]; simp only [S56, step56]
          rw [wsucc (by omega)]
          exact ih (j + 1) k cs (by omega) (by omega) F O hr
        have f0 : decide ((0 : Int) ≤ (j : Int)) = true := decide_eq_true (by omega)
        have hg' := hg.fr' F
        rw [run_succ]; simp only [S56, step56, O.okA, O.rdc, e0, e1, C.g.okR, C.g.rdc, C.t.okR, C.t.rdc, cond_true]
        refine .cnd (fun c1 => .cnd (fun c2 => ?_) fun _ => j15 _ _ (by omega) F O hr) fun _ => j15 _ _ (by omega) F O hr
        rw [run_succ]; simp only [step56, O.okA, O.rdc, e0, e1, C.g.okA, C.g.rdc, hg'.okA, hg'.rdc, p0, p1, f0, c1, cond_true]
        refine .cnd (fun _ => .cnd (fun _ => ?_) fun _ => j18 _ _ (by omega) F O hr) fun _ => j18 _ _ (by omega) F O hr
        rw [run_succ]; simp only [step56, O.okA, O.rdc, e0, e1, C.t.okA, C.t.rdc, f0, c2, cond_true, setc2, Int.toNat_natCast]
        have c2 := of_decide_eq_true c2
        rcases C.t with ⟨_, z⟩ | ht
        · rw [z] at c2; simp at c2; omega
        · have E : Ev cs0.length cs (setc cs (rd74 ps (i : Int)).f3 (.arr 9 (Tx.set j tx))) := .set (by decide) ht (by rw [List.length_set])
          exact j18 _ _ (by omega) (F.trans E.fr) (E.vw _ _ O) fun x hx => (hr x hx).ev E
    obtain ⟨k, rfl⟩ : ∃ j, k = j + 1 := ⟨k - 1, by omega⟩
    rw [run_succ]; simp only [S56, step56, O.okR, O.rdc, e1, cond_true]
    exact inner 1000 0 k cs (by omega) (by omega) F O hr
theorem ok56 (k : Nat) (hk : 40000 < k) {v : S45} (h : Vw 0 cs0 v) (ad b : Int) (h0 : 0 ≤ ad) (h1 : ad < 64) : Okk (f56 k (cs0, v, 0, ad, b)) (fun r => Fr_ cs0.length cs0 r.2 ∧ Vw cs0.length r.2 r.1.1) := by
  have zero : ∀ cs : H, Vw cs0.length cs ⟨0⟩ := fun cs => ⟨[], .inl ⟨rfl, rfl⟩, by simp, fun x hx => by simp at hx⟩
  obtain ⟨ps, hp, h5, hr⟩ := h
  obtain ⟨k', ek⟩ : ∃ q, k = q + 2 := ⟨k - 2, by omega⟩
  unfold f56 start56
  refine .bnd (ok73 k (by omega) hp h5 hr 0) fun r hw => ?_
  obtain ⟨w, cs1⟩ := r
  obtain ⟨e, hw⟩ := hw
  simp only at e hw ⊢
  have e := e.symm
  subst e
  refine .cnd (fun _ => .ret ⟨.refl _ _, zero _⟩) fun c => ?_
  obtain ⟨q, hq, e, hT⟩ := hw (by simpa using c)
  obtain rfl : q = 0 := by omega
  rw [ok74, Option.bind_some]
  refine .cnd (fun _ => .ret ⟨.refl _ _, zero _⟩) fun _ => ?_
  rw [ok31, Option.bind_some]
  refine .cnd (fun _ => .ret ⟨.refl _ _, zero _⟩) fun _ => ?_
  rw [show ∀ p, run (step56 (f31 k) (f73 k) (f74 k) (f75 k) (f76 k) (f77 k)) k p = run (S56 k) (k' + 2) p from fun p => by rw [← ek], run_succ]
  simp only [S56, step56]
  obtain ⟨j, ej, hj, m0, m1⟩ := div4 h0 h1
  have ex : ∀ i : Nat, ∃ t : List (TT 76) × List (TT 3) × List (TT 9), i < ps.length → Cn 0 cs0 (rd74 ps (i : Int)) t.1 t.2.1 t.2.2 := fun i => by
    by_cases c : i < ps.length
    · obtain ⟨A, G, Tx, C⟩ := (hr _ (rd74_mem c)).cn
      exact ⟨(A, G, Tx), fun _ => C⟩
    · exact ⟨([], [], []), fun h => absurd h c⟩
  refine .bnd (ok75' k (by omega) hp h5 (fun i => (ex i).choose.1) (fun i => (ex i).choose.2.1) (fun i => (ex i).choose.2.2) fun i hi => (ex i).choose_spec hi) fun r hr2 => ?_
  obtain ⟨v2, cs2⟩ := r
  obtain ⟨F, qs, O, C2⟩ := hr2
  simp only at F O C2 ⊢
  have C0 := (ex 0).choose_spec hq
  generalize (ex 0).choose.1 = A at C0
  have T0 := C2.t 0 hq
  generalize (ex 0).choose.2.1 = G at C0
  generalize (ex 0).choose.2.2 = Tx at C0 T0
  obtain ⟨lt, lg⟩ := hT A G Tx C0
  have hp2 := hp.fr' F
  have C02 := C0.fr' F
  have e1 : decide ((0 : Int) < ((ps.length : Nat) : Int)) = true := decide_eq_true (by omega)
  have e1' : decide ((0 : Int) < ((qs.length : Nat) : Int)) = true := decide_eq_true (by rw [C2.len]; omega)
  have rv2 : ∀ x ∈ qs, Rv cs0.length cs2 x := fun x hx => by
    obtain ⟨i, hi, rfl⟩ := List.mem_iff_getElem.1 hx
    have hi' : i < ps.length := by rw [← C2.len]; exact hi
    have a1 := C2.a i hi'
    have a2 := C2.g i hi'
    have a3 := C2.t i hi'
    rw [rd74_at hi] at a1 a2 a3
    have cc := (ex i).choose_spec hi'
    exact ⟨⟨_, a1.z, cc.la⟩, ⟨_, a2.z, cc.lg⟩, ⟨_, a3.z, cc.lt⟩⟩
  have vw2 : Vw cs0.length cs2 v2 := ⟨qs, O.z, by rw [C2.len]; exact h5, rv2⟩
  have z0 : rd74 ps 0 = rd74 ps ((0 : Nat) : Int) := rfl
  have z1 : rd74 qs 0 = rd74 qs ((0 : Nat) : Int) := rfl
  have d0 : decide ((0 : Int) ≤ (j : Int)) = true := decide_eq_true (by omega)
  have d1 : decide ((j : Int) < ((Tx.length : Nat) : Int)) = true := decide_eq_true (by omega)
  have z3 : decide ((0 : Int) ≤ 0) = true := rfl
  simp only [hp2.okA, hp2.rdc, e1, z3, cond_true, ej]
  rw [z0]
  refine .bnd (ok76' k (by omega) C02.a C02.la (j : Int)) fun r hr3 => ?_
  obtain ⟨at_, cs3⟩ := r
  obtain ⟨e, hat⟩ := hr3
  simp only at e hat ⊢
  have e := e.symm
  subst e
  refine .cnd (fun _ => .ret ⟨F, vw2⟩) fun c => ?_
  have c : ¬ (at_ < 0) := by simpa using c
  have hat := hat.resolve_left (by omega)
  simp only [C02.t.okA, C02.t.rdc, d0, d1, cond_true]
  refine .cnd (fun _ => .ret ⟨F, vw2⟩) fun c => ?_
  have sz : (rd9 Tx (j : Int)).size = 4 := by
    have : (((rd9 Tx (j : Int)).size : Nat) : Int) = 4 := by simpa using c
    omega
  have d2 : decide ((0 : Int) ≤ at_) = true := decide_eq_true hat.1
  have d3 : decide (at_ < ((A.length : Nat) : Int)) = true := decide_eq_true hat.2
  rw [run_succ]
  simp only [step56, C02.a.okA, C02.a.rdc, C02.t.okA, C02.t.rdc, d0, d1, d2, d3, cond_true]
  refine .cnd (fun _ => .ret ⟨F, vw2⟩) fun _ => ?_
  refine .bnd (ok77 k _ _ _ sz m0 m1) fun tx htx => ?_
  simp only [O.okA, O.rdc, e1', z3, cond_true]
  rw [z1]
  simp only [T0.okA, T0.rdc, d0, d1, cond_true, setc2, Int.toNat_natCast]
  have E : Ev cs0.length cs2 (setc cs2 (rd74 qs ((0 : Nat) : Int)).f3 (.arr 9 (Tx.set j tx))) := .set (by decide) T0 (by rw [List.length_set])
  exact w14 k (C0.g) j (by omega) tx v2.f0 qs.length 0 k' _ qs (by omega) (by rw [C2.len]; omega) (F.trans E.fr) (E.vw _ _ O) (by rw [C2.len]; exact h5) fun x hx => (rv2 x hx).ev E

/-- DrawBytesSame. -/
theorem ok26 (k : Nat) (hk : 40000 < k) (code : List Int) (hc : ∀ x ∈ code, 0 ≤ x ∧ x ≤ 255) : Okk (f26 k (cs0, code)) (fun r => Vw 0 r.2 r.1.1 ∧ Vw 0 r.2 r.1.2) := by
  unfold f26 start26
  refine .bnd (ok28 k code hc) fun r0 h0 => ?_
  refine .bnd (ok55 k (by omega) h0 (by omega)) fun r1 h1 => ?_
  obtain ⟨m1, q1, cs1⟩ := r1
  obtain ⟨_, Q1, M1⟩ := h1
  simp only at Q1 M1 ⊢
  refine .bnd (ok54 k (by omega) M1) fun r2 h2 => ?_
  obtain ⟨⟨v2, b2⟩, cs2⟩ := r2
  obtain ⟨_, V2⟩ := h2
  simp only at V2 ⊢
  have V2 := V2.mono (Nat.zero_le _)
  refine .bnd (ok29 k (by omega) Q1 (by omega) 2 (by decide)) fun r3 h3 => ?_
  refine .cnd (fun _ => ?_) fun _ => ?_
  · refine .bnd (ok29 k (by omega) h3.2.2 (by omega) 64 (by decide)) fun r4 h4 => ?_
    refine .bnd (ok29 k (by omega) h4.2.2 (by omega) 3 (by decide)) fun r5 h5 => ?_
    refine .bnd (ok56 k hk V2 r4.1 r5.1 h4.1 h4.2.1) fun r6 h6 => ?_
    exact .ret ⟨V2.fr h6.1, h6.2.mono (Nat.zero_le _)⟩
  · refine .bnd (ok55 k (by omega) h3.2.2 (by omega)) fun r7 h7 => ?_
    obtain ⟨m7, q7, cs7⟩ := r7
    obtain ⟨f7_, Q7, M7⟩ := h7
    simp only at f7_ M7 ⊢
    refine .bnd (ok54 k (by omega) M7) fun r8 h8 => ?_
    exact .ret ⟨(V2.fr f7_).fr h8.1, h8.2.mono (Nat.zero_le _)⟩
end
end Go.Sx
namespace Go.Sx
open Go.RowKit
set_option linter.unusedVariables false
set_option linter.unusedSimpArgs false

/-! ### equal meanings -/
theorem eq76 (a b : S76) : ((a.f0 == b.f0) && ((a.f1 == b.f1) && ((a.f2 == b.f2) && ((a.f3 == b.f3) && true)))) = decide (a = b) := by
  cases a; cases b
  rw [Bool.eq_iff_iff]
  simp
theorem bne_dec (a b : Int) : (a != b) = !decide (a = b) := rfl
theorem beq_dec (a b : Bool) : (a == b) = decide (a = b) := by cases a <;> cases b <;> rfl
section
variable {n : Nat} {cs : H}

theorem eq50 {x0 x1 : Nat} {xs ys : List S76} (a : Hz n cs x0 76 xs) (b : Hz n cs x1 76 ys) (hx : xs.length ≤ 1000) (k : Nat) (hk : 2000 < k) : f50 k (cs, x0, x1) = some (decide (xs = ys), cs) := by
  unfold f50 start50
  simp only [a.okR, a.rdc, b.okR, b.rdc, cond_true]
  by_cases hl : xs.length = ys.length
  · rw [show (((xs.length : Nat) : Int) != ((ys.length : Nat) : Int)) = false by simp [hl], cond_false]
    have := run_all (step := step50) (fun i => J50.j4 x0 x1 ((xs.length : Nat) : Int) i cs) xs.length (fun i => decide (xs[i]? = ys[i]?)) (some (false, cs)) (fun go i hi => by
      have h1 : (i : Int) < (xs.length : Int) := by omega
      have h2 : (0 : Int) ≤ (i : Int) := by omega
      have h3 : (i : Int) < (ys.length : Int) := by omega
      have h4 : i < ys.length := by omega
      simp only [step50, a.okA, a.okR, a.rdc, b.okA, b.rdc, h1, h2, h3, decide_true, cond_true, w64_up (show i < 9223372036854775807 by omega), List.getElem?_eq_getElem hi, List.getElem?_eq_getElem h4, Option.some.injEq, rd76_at hi, rd76_at h4, eq76]
      cases hd : decide (xs[i] = ys[i]) <;> rfl) (k := k) (by omega)
    have e : run step50 k (J50.j4 x0 x1 ((xs.length : Nat) : Int) 0 cs) = run step50 k ((fun (i : Nat) => J50.j4 x0 x1 ((xs.length : Nat) : Int) i cs) 0) := rfl
    rw [e, this, all_eq hl (fun i h => by simp [List.getElem?_eq_getElem h, List.getElem?_eq_getElem (hl ▸ h)]), run_pos _ (by omega)]
    by_cases e : xs = ys <;> simp [e, step50, a.okR, a.rdc, b.okR, b.rdc]
  · rw [show (((xs.length : Nat) : Int) != ((ys.length : Nat) : Int)) = true by simp; omega, cond_true]
    rw [decide_eq_false]
    rintro rfl
    exact hl rfl

theorem eq51 {x0 x1 : Nat} {xs ys : List Int} (a : Hz n cs x0 3 xs) (b : Hz n cs x1 3 ys) (hx : xs.length ≤ 1000) (k : Nat) (hk : 2000 < k) : f51 k (cs, x0, x1) = some (decide (xs = ys), cs) := by
  unfold f51 start51
  simp only [a.okR, a.rdc, b.okR, b.rdc, cond_true]
  by_cases hl : xs.length = ys.length
  · rw [show (((xs.length : Nat) : Int) != ((ys.length : Nat) : Int)) = false by simp [hl], cond_false]
    have := run_all (step := step51) (fun i => J51.j4 x0 x1 ((xs.length : Nat) : Int) i cs) xs.length (fun i => decide (xs[i]? = ys[i]?)) (some (false, cs)) (fun go i hi => by
      have h1 : (i : Int) < (xs.length : Int) := by omega
      have h2 : (0 : Int) ≤ (i : Int) := by omega
      have h3 : (i : Int) < (ys.length : Int) := by omega
      have h4 : i < ys.length := by omega
      simp only [step51, a.okA, a.okR, a.rdc, b.okA, b.rdc, h1, h2, h3, decide_true, cond_true, w64_up (show i < 9223372036854775807 by omega), List.getElem?_eq_getElem hi, List.getElem?_eq_getElem h4, Option.some.injEq, rd3_at hi, rd3_at h4, bne_dec]
      cases hd : decide (xs[i] = ys[i]) <;> rfl) (k := k) (by omega)
    have e : run step51 k (J51.j4 x0 x1 ((xs.length : Nat) : Int) 0 cs) = run step51 k ((fun (i : Nat) => J51.j4 x0 x1 ((xs.length : Nat) : Int) i cs) 0) := rfl
    rw [e, this, all_eq hl (fun i h => by simp [List.getElem?_eq_getElem h, List.getElem?_eq_getElem (hl ▸ h)]), run_pos _ (by omega)]
    by_cases e : xs = ys <;> simp [e, step51, a.okR, a.rdc, b.okR, b.rdc]
  · rw [show (((xs.length : Nat) : Int) != ((ys.length : Nat) : Int)) = true by simp; omega, cond_true]
    rw [decide_eq_false]
    rintro rfl
    exact hl rfl

theorem eq52 {x0 x1 : Nat} {xs ys : List ByteArray} (a : Hz n cs x0 9 xs) (b : Hz n cs x1 9 ys) (hx : xs.length ≤ 1000) (k : Nat) (hk : 2000 < k) : f52 k (cs, x0, x1) = some (decide (xs = ys), cs) := by
  unfold f52 start52
  simp only [a.okR, a.rdc, b.okR, b.rdc, cond_true]
  by_cases hl : xs.length = ys.length
  · rw [show (((xs.length : Nat) : Int) != ((ys.length : Nat) : Int)) = false by simp [hl], cond_false]
    have := run_all (step := step52) (fun i => J52.j4 x0 x1 ((xs.length : Nat) : Int) i cs) xs.length (fun i => decide (xs[i]? = ys[i]?)) (some (false, cs)) (fun go i hi => by
      have h1 : (i : Int) < (xs.length : Int) := by omega
      have h2 : (0 : Int) ≤ (i : Int) := by omega
      have h3 : (i : Int) < (ys.length : Int) := by omega
      have h4 : i < ys.length := by omega
      simp only [step52, a.okA, a.okR, a.rdc, b.okA, b.rdc, h1, h2, h3, decide_true, cond_true, w64_up (show i < 9223372036854775807 by omega), List.getElem?_eq_getElem hi, List.getElem?_eq_getElem h4, Option.some.injEq, rd9_at hi, rd9_at h4, bytes_eq]
      cases hd : decide (xs[i] = ys[i]) <;> rfl) (k := k) (by omega)
    have e : run step52 k (J52.j4 x0 x1 ((xs.length : Nat) : Int) 0 cs) = run step52 k ((fun (i : Nat) => J52.j4 x0 x1 ((xs.length : Nat) : Int) i cs) 0) := rfl
    rw [e, this, all_eq hl (fun i h => by simp [List.getElem?_eq_getElem h, List.getElem?_eq_getElem (hl ▸ h)]), run_pos _ (by omega)]
    by_cases e : xs = ys <;> simp [e, step52, a.okR, a.rdc, b.okR, b.rdc]
  · rw [show (((xs.length : Nat) : Int) != ((ys.length : Nat) : Int)) = true by simp; omega, cond_true]
    rw [decide_eq_false]
    rintro rfl
    exact hl rfl

theorem eq57 {x0 x1 : Nat} {xs ys : List S76} (a : Hz n cs x0 76 xs) (b : Hz n cs x1 76 ys) (hx : xs.length ≤ 1000) (k : Nat) (hk : 2000 < k) : f57 k (cs, x0, x1) = some (decide (xs = ys), cs) := by
  unfold f57 start57
  simp only [a.okR, a.rdc, b.okR, b.rdc, cond_true]
  by_cases hl : xs.length = ys.length
  · rw [show (((xs.length : Nat) : Int) != ((ys.length : Nat) : Int)) = false by simp [hl], cond_false]
    have := run_all (step := step57) (fun i => J57.j4 x0 x1 i cs) xs.length (fun i => decide (xs[i]? = ys[i]?)) (some (false, cs)) (fun go i hi => by
      have h1 : (i : Int) < (xs.length : Int) := by omega
      have h2 : (0 : Int) ≤ (i : Int) := by omega
      have h3 : (i : Int) < (ys.length : Int) := by omega
      have h4 : i < ys.length := by omega
      simp only [step57, a.okA, a.okR, a.rdc, b.okA, b.rdc, h1, h2, h3, decide_true, cond_true, w64_up (show i < 9223372036854775807 by omega), List.getElem?_eq_getElem hi, List.getElem?_eq_getElem h4, Option.some.injEq, rd76_at hi, rd76_at h4, eq76]
      cases hd : decide (xs[i] = ys[i]) <;> rfl) (k := k) (by omega)
    have e : run step57 k (J57.j4 x0 x1 0 cs) = run step57 k ((fun (i : Nat) => J57.j4 x0 x1 i cs) 0) := rfl
    rw [e, this, all_eq hl (fun i h => by simp [List.getElem?_eq_getElem h, List.getElem?_eq_getElem (hl ▸ h)]), run_pos _ (by omega)]
    by_cases e : xs = ys <;> simp [e, step57, a.okR, a.rdc, b.okR, b.rdc]
  · rw [show (((xs.length : Nat) : Int) != ((ys.length : Nat) : Int)) = true by simp; omega, cond_true]
    rw [decide_eq_false]
    rintro rfl
    exact hl rfl

theorem eq32 {x0 x1 : Nat} {xs ys : List Int} (a : Hz n cs x0 3 xs) (b : Hz n cs x1 3 ys) (hx : xs.length ≤ 1000) (k : Nat) (hk : 2000 < k) : f32 k (cs, x0, x1) = some (decide (xs = ys), cs) := by
  unfold f32 start32
  simp only [a.okR, a.rdc, b.okR, b.rdc, cond_true]
  by_cases hl : xs.length = ys.length
  · rw [show (((xs.length : Nat) : Int) != ((ys.length : Nat) : Int)) = false by simp [hl], cond_false]
    have := run_all (step := step32) (fun i => J32.j4 x0 x1 i cs) xs.length (fun i => decide (xs[i]? = ys[i]?)) (some (false, cs)) (fun go i hi => by
      have h1 : (i : Int) < (xs.length : Int) := by omega
      have h2 : (0 : Int) ≤ (i : Int) := by omega
      have h3 : (i : Int) < (ys.length : Int) := by omega
      have h4 : i < ys.length := by omega
      simp only [step32, a.okA, a.okR, a.rdc, b.okA, b.rdc, h1, h2, h3, decide_true, cond_true, w64_up (show i < 9223372036854775807 by omega), List.getElem?_eq_getElem hi, List.getElem?_eq_getElem h4, Option.some.injEq, rd3_at hi, rd3_at h4, bne_dec]
      cases hd : decide (xs[i] = ys[i]) <;> rfl) (k := k) (by omega)
    have e : run step32 k (J32.j4 x0 x1 0 cs) = run step32 k ((fun (i : Nat) => J32.j4 x0 x1 i cs) 0) := rfl
    rw [e, this, all_eq hl (fun i h => by simp [List.getElem?_eq_getElem h, List.getElem?_eq_getElem (hl ▸ h)]), run_pos _ (by omega)]
    by_cases e : xs = ys <;> simp [e, step32, a.okR, a.rdc, b.okR, b.rdc]
  · rw [show (((xs.length : Nat) : Int) != ((ys.length : Nat) : Int)) = true by simp; omega, cond_true]
    rw [decide_eq_false]
    rintro rfl
    exact hl rfl

theorem eq58 {x0 x1 : Nat} {xs ys : List ByteArray} (a : Hz n cs x0 9 xs) (b : Hz n cs x1 9 ys) (hx : xs.length ≤ 1000) (k : Nat) (hk : 2000 < k) : f58 k (cs, x0, x1) = some (decide (xs = ys), cs) := by
  unfold f58 start58
  simp only [a.okR, a.rdc, b.okR, b.rdc, cond_true]
  by_cases hl : xs.length = ys.length
  · rw [show (((xs.length : Nat) : Int) != ((ys.length : Nat) : Int)) = false by simp [hl], cond_false]
    have := run_all (step := step58) (fun i => J58.j4 x0 x1 i cs) xs.length (fun i => decide (xs[i]? = ys[i]?)) (some (false, cs)) (fun go i hi => by
      have h1 : (i : Int) < (xs.length : Int) := by omega
      have h2 : (0 : Int) ≤ (i : Int) := by omega
      have h3 : (i : Int) < (ys.length : Int) := by omega
      have h4 : i < ys.length := by omega
      simp only [step58, a.okA, a.okR, a.rdc, b.okA, b.rdc, h1, h2, h3, decide_true, cond_true, w64_up (show i < 9223372036854775807 by omega), List.getElem?_eq_getElem hi, List.getElem?_eq_getElem h4, Option.some.injEq, rd9_at hi, rd9_at h4, bytes_eq]
      cases hd : decide (xs[i] = ys[i]) <;> rfl) (k := k) (by omega)
    have e : run step58 k (J58.j4 x0 x1 0 cs) = run step58 k ((fun (i : Nat) => J58.j4 x0 x1 i cs) 0) := rfl
    rw [e, this, all_eq hl (fun i h => by simp [List.getElem?_eq_getElem h, List.getElem?_eq_getElem (hl ▸ h)]), run_pos _ (by omega)]
    by_cases e : xs = ys <;> simp [e, step58, a.okR, a.rdc, b.okR, b.rdc]
  · rw [show (((xs.length : Nat) : Int) != ((ys.length : Nat) : Int)) = true by simp; omega, cond_true]
    rw [decide_eq_false]
    rintro rfl
    exact hl rfl


/-- What a space's meaning holds. -/
def ct (cs : H) (x : S74) : Bool × List S76 × List Int × List ByteArray := (x.f0, rdc 76 cs x.f1, rdc 3 cs x.f2, rdc 9 cs x.f3)
theorem ct_cn {x : S74} {A : List S76} {G : List Int} {Tx : List ByteArray} (C : Cn n cs x A G Tx) : ct cs x = (x.f0, A, G, Tx) := by unfold ct; rw [C.a.rdc, C.g.rdc, C.t.rdc]
theorem dec4 {α β γ : Type} [DecidableEq α] [DecidableEq β] [DecidableEq γ] (a a' : Bool) (b b' : α) (c c' : β) (d d' : γ) : decide ((a, b, c, d) = (a', b', c', d')) = (decide (a = a') && (decide (b = b') && (decide (c = c') && decide (d = d')))) := by
  rw [Bool.eq_iff_iff]; simp
theorem eq49 {x y : S74} {A A' : List S76} {G G' : List Int} {Tx T' : List ByteArray} (C : Cn n cs x A G Tx) (D : Cn n cs y A' G' T') (k : Nat) (hk : 2000 < k) : f49 k (cs, x, y) = some (decide (ct cs x = ct cs y), cs) := by
  rw [ct_cn C, ct_cn D, dec4]
  unfold f49 start49
  simp only [eq50 C.a D.a C.la k hk, eq51 C.g D.g C.lg k hk, eq52 C.t D.t C.lt k hk, Option.bind_some, beq_dec]
  cases decide (x.f0 = y.f0) <;> cases decide (A = A') <;> cases decide (G = G') <;> cases decide (Tx = T') <;> rfl
/-- Views, held space by space. -/
def cv (cs : H) (ps : List S74) : List (Bool × List S76 × List Int × List ByteArray) := ps.map (ct cs)
theorem cv_dec {ps qs : List S74} (hl : ps.length = qs.length) : ((List.range ps.length).all fun i => decide ((ps[i]?).map (ct cs) = (qs[i]?).map (ct cs))) = decide (cv cs ps = cv cs qs) := by
  have := all_eq (xs := cv cs ps) (ys := cv cs qs) (by simp [cv, hl]) (p := fun i => decide ((ps[i]?).map (ct cs) = (qs[i]?).map (ct cs))) (fun i h => by
    have h' : i < ps.length := by simpa [cv] using h
    have h2 : i < qs.length := by omega
    simp [cv, List.getElem?_eq_getElem h', List.getElem?_eq_getElem h2])
  rw [show (cv cs ps).length = ps.length by simp [cv]] at this
  exact this
theorem cv_ne {ps qs : List S74} (hl : ps.length ≠ qs.length) : cv cs ps ≠ cv cs qs := fun h => hl (by have := congrArg List.length h; simpa [cv] using this)
structure Vv (n : Nat) (cs : H) (v : Nat) (ps : List S74) : Prop where
  h : Hz n cs v 74 ps
  l : ps.length ≤ 5
  r : ∀ x ∈ ps, Rv n cs x
theorem Vv.cn {v : Nat} {ps : List S74} (a : Vv n cs v ps) {i : Nat} (hi : i < ps.length) : ∃ (A : List S76) (G : List Int) (Tx : List ByteArray), Cn n cs (rd74 ps (i : Int)) A G Tx := (a.r _ (rd74_mem hi)).cn
theorem eq48 {x0 x1 : Nat} {ps qs : List S74} (a : Vv n cs x0 ps) (b : Vv n cs x1 qs) (k : Nat) (hk : 2000 < k) : f48 k (cs, x0, x1, ()) = some (decide (cv cs ps = cv cs qs), cs) := by
  have al := a.l
  unfold f48 start48
  simp only [a.h.okR, a.h.rdc, b.h.okR, b.h.rdc, cond_true]
  by_cases hl : ps.length = qs.length
  · rw [show (((ps.length : Nat) : Int) != ((qs.length : Nat) : Int)) = false by simp [hl], cond_false]
    have := run_all (step := step48 (f49 k)) (fun i => J48.j4 x1 x0 ((ps.length : Nat) : Int) i cs) ps.length (fun i => decide ((ps[i]?).map (ct cs) = (qs[i]?).map (ct cs))) (some (false, cs)) (fun go i hi => by
      have h1 : (i : Int) < (ps.length : Int) := by omega
      have h2 : (0 : Int) ≤ (i : Int) := by omega
      have h3 : (i : Int) < (qs.length : Int) := by omega
      have h4 : i < qs.length := by omega
      obtain ⟨A, G, Tx, C⟩ := a.cn hi
      obtain ⟨A', G', T', D⟩ := b.cn h4
      simp only [step48, a.h.okA, a.h.rdc, b.h.okA, b.h.rdc, h1, h2, h3, decide_true, cond_true, w64_up (show i < 9223372036854775807 by omega), List.getElem?_eq_getElem hi, List.getElem?_eq_getElem h4, Option.map_some, Option.some.injEq, eq49 C D k hk, Option.bind_some]
      rw [rd74_at hi, rd74_at h4]
      cases hd : decide (ct cs ps[i] = ct cs qs[i]) <;> rfl) (k := k) (by omega)
    have e : run (step48 (f49 k)) k (J48.j4 x1 x0 ((ps.length : Nat) : Int) 0 cs) = run (step48 (f49 k)) k ((fun (i : Nat) => J48.j4 x1 x0 ((ps.length : Nat) : Int) i cs) 0) := rfl
    rw [e, this, cv_dec hl, run_pos _ (by omega)]
    by_cases e : cv cs ps = cv cs qs <;> simp [e, step48]
  · rw [show (((ps.length : Nat) : Int) != ((qs.length : Nat) : Int)) = true by simp; omega, cond_true, decide_eq_false (cv_ne hl)]
theorem eq24 {v w : S45} {ps qs : List S74} (a : Vv n cs v.f0 ps) (b : Vv n cs w.f0 qs) (k : Nat) (hk : 2000 < k) : f24 k (cs, v, w) = some (decide (cv cs ps = cv cs qs), cs) := by
  unfold f24 start24
  simp only [eq48 a b k hk, Option.bind_some]
theorem eq27 {v w : S45} {ps qs : List S74} (a : Vv n cs v.f0 ps) (b : Vv n cs w.f0 qs) (k : Nat) (hk : 2000 < k) : f27 k (cs, v, w) = some (decide (cv cs ps = cv cs qs), cs) := by
  have al := a.l
  unfold f27 start27
  simp only [a.h.okR, a.h.rdc, b.h.okR, b.h.rdc, cond_true]
  by_cases hl : ps.length = qs.length
  · rw [show (((ps.length : Nat) : Int) != ((qs.length : Nat) : Int)) = false by simp [hl], cond_false]
    have key : ∀ (d i kk : Nat), i + d = ps.length → 2 * d < kk → run (step27 (f32 k) (f57 k) (f58 k)) kk (J27.j4 (i : Int) cs v.f0 w.f0) = some ((List.range' i d).all (fun i => decide ((ps[i]?).map (ct cs) = (qs[i]?).map (ct cs))), cs) := by
      intro d
      induction d with
      | zero =>
        intro i kk h hk'
        obtain ⟨kk, rfl⟩ : ∃ j, kk = j + 1 := ⟨kk - 1, by omega⟩
        have e : decide ((i : Int) < ((ps.length : Nat) : Int)) = false := decide_eq_false (by omega)
        rw [run_succ]; simp only [step27, a.h.okR, a.h.rdc, e, cond_true, cond_false]
        rfl
      | succ d ih =>
        intro i kk h hk'
        obtain ⟨kk, rfl⟩ : ∃ j, kk = j + 2 := ⟨kk - 2, by omega⟩
        have hi : i < ps.length := by omega
        have h1 : decide ((i : Int) < ((ps.length : Nat) : Int)) = true := decide_eq_true (by omega)
        have h2 : decide ((0 : Int) ≤ (i : Int)) = true := decide_eq_true (by omega)
        have h3 : decide ((i : Int) < ((qs.length : Nat) : Int)) = true := decide_eq_true (by omega)
        have h4 : i < qs.length := by omega
        obtain ⟨A, G, Tx, C⟩ := a.cn hi
        obtain ⟨A', G', T', D⟩ := b.cn h4
        have ec := ct_cn C
        have ed := ct_cn D
        rw [rd74_at hi] at ec
        rw [rd74_at h4] at ed
        rw [run_succ]; simp only [step27, a.h.okA, a.h.okR, a.h.rdc, b.h.okA, b.h.rdc, h1, h2, h3, cond_true, eq57 C.a D.a C.la k hk, eq32 C.g D.g C.lg k hk, eq58 C.t D.t C.lt k hk, Option.bind_some, beq_dec]
        rw [run_succ]; simp only [step27]
        rw [w64_up (show i < 9223372036854775807 by omega), ih (i + 1) kk (by omega) (by omega), List.range'_succ, List.all_cons, List.getElem?_eq_getElem hi, List.getElem?_eq_getElem h4, Option.map_some, Option.map_some, ec, ed]
        have ex : ∀ {α : Type} [DecidableEq α] (p q : α), decide (some p = some q) = decide (p = q) := fun p q => by simp
        rw [ex, dec4, rd74_at hi, rd74_at h4]
        cases decide (ps[i].f0 = qs[i].f0) <;> cases decide (A = A') <;> cases decide (G = G') <;> cases decide (Tx = T') <;> rfl
    have := key ps.length 0 k (by omega) (by omega)
    rw [← List.range_eq_range', cv_dec hl] at this
    exact this
  · rw [show (((ps.length : Nat) : Int) != ((qs.length : Nat) : Int)) = true by simp; omega, cond_true, decide_eq_false (cv_ne hl)]

theorem s11 {x y : S74} {i : Int} {v w : Nat} {A B : List S76} (a : Hz n cs x.f1 76 A) (b : Hz n cs y.f1 76 B) (hl : A.length = B.length) (hb : A.length ≤ 1000) (K : Nat) (R : Option (Bool × H)) (h1 : A = B → ∀ k, K ≤ k → run step22 k (J22.j16 i 0 cs v w x.f0 x.f1 x.f2 x.f3 y.f0 y.f1 y.f2 y.f3) = R) (h2 : A ≠ B → R = some (false, cs)) :
    ∀ (d q k : Nat), q + d = A.length → K + d + 1 ≤ k → (∀ b : Nat, b < q → A[b]? = B[b]?) → run step22 k (J22.j11 i (q : Int) cs v w x.f0 x.f1 x.f2 x.f3 y.f0 y.f1 y.f2 y.f3) = R
  | 0, q, k, h, hk, hq => by
    obtain ⟨k, rfl⟩ : ∃ j, k = j + 1 := ⟨k - 1, by omega⟩
    have e : decide ((q : Int) < ((A.length : Nat) : Int)) = false := decide_eq_false (by omega)
    rw [run_succ]; simp only [step22, a.okR, a.rdc, e, cond_true, cond_false]
    refine h1 (List.ext_getElem? fun b => ?_) k (by omega)
    by_cases c : b < q
    · exact hq b c
    · rw [List.getElem?_eq_none (by omega), List.getElem?_eq_none (by omega)]
  | d + 1, q, k, h, hk, hq => by
    obtain ⟨k, rfl⟩ : ∃ j, k = j + 1 := ⟨k - 1, by omega⟩
    have hi : q < A.length := by omega
    have h4 : q < B.length := by omega
    have e1 : decide ((q : Int) < ((A.length : Nat) : Int)) = true := decide_eq_true (by omega)
    have e2 : decide ((0 : Int) ≤ (q : Int)) = true := decide_eq_true (by omega)
    have e3 : decide ((q : Int) < ((B.length : Nat) : Int)) = true := decide_eq_true (by omega)
    rw [run_succ]; simp only [step22, a.okA, a.okR, a.rdc, b.okA, b.rdc, e1, e2, e3, cond_true, rd76_at hi, rd76_at h4, eq76]
    rw [w64_up (show q < 9223372036854775807 by omega)]
    by_cases c : A[q] = B[q]
    · rw [decide_eq_true c]
      show run step22 k _ = R
      refine s11 a b hl hb K R h1 h2 d (q + 1) k (by omega) (by omega) fun b hb => ?_
      by_cases c2 : b = q
      · subst c2; rw [List.getElem?_eq_getElem hi, List.getElem?_eq_getElem h4, c]
      · exact hq b (by omega)
    · rw [decide_eq_false c]
      exact (h2 fun e => c (by subst e; rfl)).symm

theorem s16 {x y : S74} {i : Int} {v w : Nat} {A B : List Int} (a : Hz n cs x.f2 3 A) (b : Hz n cs y.f2 3 B) (hl : A.length = B.length) (hb : A.length ≤ 1000) (K : Nat) (R : Option (Bool × H)) (h1 : A = B → ∀ k, K ≤ k → run step22 k (J22.j21 i 0 cs v w x.f0 x.f1 x.f2 x.f3 y.f0 y.f1 y.f2 y.f3) = R) (h2 : A ≠ B → R = some (false, cs)) :
    ∀ (d q k : Nat), q + d = A.length → K + d + 1 ≤ k → (∀ b : Nat, b < q → A[b]? = B[b]?) → run step22 k (J22.j16 i (q : Int) cs v w x.f0 x.f1 x.f2 x.f3 y.f0 y.f1 y.f2 y.f3) = R
  | 0, q, k, h, hk, hq => by
    obtain ⟨k, rfl⟩ : ∃ j, k = j + 1 := ⟨k - 1, by omega⟩
    have e : decide ((q : Int) < ((A.length : Nat) : Int)) = false := decide_eq_false (by omega)
    rw [run_succ]; simp only [step22, a.okR, a.rdc, e, cond_true, cond_false]
    refine h1 (List.ext_getElem? fun b => ?_) k (by omega)
    by_cases c : b < q
    · exact hq b c
    · rw [List.getElem?_eq_none (by omega), List.getElem?_eq_none (by omega)]
  | d + 1, q, k, h, hk, hq => by
    obtain ⟨k, rfl⟩ : ∃ j, k = j + 1 := ⟨k - 1, by omega⟩
    have hi : q < A.length := by omega
    have h4 : q < B.length := by omega
    have e1 : decide ((q : Int) < ((A.length : Nat) : Int)) = true := decide_eq_true (by omega)
    have e2 : decide ((0 : Int) ≤ (q : Int)) = true := decide_eq_true (by omega)
    have e3 : decide ((q : Int) < ((B.length : Nat) : Int)) = true := decide_eq_true (by omega)
    rw [run_succ]; simp only [step22, a.okA, a.okR, a.rdc, b.okA, b.rdc, e1, e2, e3, cond_true, rd3_at hi, rd3_at h4, bne_dec]
    rw [w64_up (show q < 9223372036854775807 by omega)]
    by_cases c : A[q] = B[q]
    · rw [decide_eq_true c]
      show run step22 k _ = R
      refine s16 a b hl hb K R h1 h2 d (q + 1) k (by omega) (by omega) fun b hb => ?_
      by_cases c2 : b = q
      · subst c2; rw [List.getElem?_eq_getElem hi, List.getElem?_eq_getElem h4, c]
      · exact hq b (by omega)
    · rw [decide_eq_false c]
      exact (h2 fun e => c (by subst e; rfl)).symm

theorem s21 {x y : S74} {i : Int} {v w : Nat} {A B : List ByteArray} (a : Hz n cs x.f3 9 A) (b : Hz n cs y.f3 9 B) (hl : A.length = B.length) (hb : A.length ≤ 1000) (K : Nat) (R : Option (Bool × H)) (h1 : A = B → ∀ k, K ≤ k → run step22 k (J22.j4 (w64 (i + 1)) cs v w) = R) (h2 : A ≠ B → R = some (false, cs)) :
    ∀ (d q k : Nat), q + d = A.length → K + d + 1 ≤ k → (∀ b : Nat, b < q → A[b]? = B[b]?) → run step22 k (J22.j21 i (q : Int) cs v w x.f0 x.f1 x.f2 x.f3 y.f0 y.f1 y.f2 y.f3) = R
  | 0, q, k, h, hk, hq => by
    obtain ⟨k, rfl⟩ : ∃ j, k = j + 1 := ⟨k - 1, by omega⟩
    have e : decide ((q : Int) < ((A.length : Nat) : Int)) = false := decide_eq_false (by omega)
    rw [run_succ]; simp only [step22, a.okR, a.rdc, e, cond_true, cond_false]
    refine h1 (List.ext_getElem? fun b => ?_) k (by omega)
    by_cases c : b < q
    · exact hq b c
    · rw [List.getElem?_eq_none (by omega), List.getElem?_eq_none (by omega)]
  | d + 1, q, k, h, hk, hq => by
    obtain ⟨k, rfl⟩ : ∃ j, k = j + 1 := ⟨k - 1, by omega⟩
    have hi : q < A.length := by omega
    have h4 : q < B.length := by omega
    have e1 : decide ((q : Int) < ((A.length : Nat) : Int)) = true := decide_eq_true (by omega)
    have e2 : decide ((0 : Int) ≤ (q : Int)) = true := decide_eq_true (by omega)
    have e3 : decide ((q : Int) < ((B.length : Nat) : Int)) = true := decide_eq_true (by omega)
    rw [run_succ]; simp only [step22, a.okA, a.okR, a.rdc, b.okA, b.rdc, e1, e2, e3, cond_true, rd9_at hi, rd9_at h4, bytes_eq]
    rw [w64_up (show q < 9223372036854775807 by omega)]
    by_cases c : A[q] = B[q]
    · rw [decide_eq_true c]
      show run step22 k _ = R
      refine s21 a b hl hb K R h1 h2 d (q + 1) k (by omega) (by omega) fun b hb => ?_
      by_cases c2 : b = q
      · subst c2; rw [List.getElem?_eq_getElem hi, List.getElem?_eq_getElem h4, c]
      · exact hq b (by omega)
    · rw [decide_eq_false c]
      exact (h2 fun e => c (by subst e; rfl)).symm

theorem eq22 {v w : S45} {ps qs : List S74} (a : Vv n cs v.f0 ps) (b : Vv n cs w.f0 qs) (k : Nat) (hk : 30000 < k) : f22 k (cs, v, w) = some (decide (cv cs ps = cv cs qs), cs) := by
  have al := a.l
  unfold f22 start22
  simp only [a.h.okR, a.h.rdc, b.h.okR, b.h.rdc, cond_true]
  by_cases hl : ps.length = qs.length
  · rw [show (((ps.length : Nat) : Int) != ((qs.length : Nat) : Int)) = false by simp [hl], cond_false]
    have key : ∀ (d i kk : Nat), i + d = ps.length → 4000 * d < kk → run step22 kk (J22.j4 (i : Int) cs v.f0 w.f0) = some ((List.range' i d).all (fun i => decide ((ps[i]?).map (ct cs) = (qs[i]?).map (ct cs))), cs) := by
      intro d
      induction d with
      | zero =>
        intro i kk h hk'
        obtain ⟨kk, rfl⟩ : ∃ j, kk = j + 1 := ⟨kk - 1, by omega⟩
        have e : decide ((i : Int) < ((ps.length : Nat) : Int)) = false := decide_eq_false (by omega)
        rw [run_succ]; simp only [step22, a.h.okR, a.h.rdc, e, cond_true, cond_false]
        rfl
      | succ d ih =>
        intro i kk h hk'
        obtain ⟨kk, rfl⟩ : ∃ j, kk = j + 2 := ⟨kk - 2, by omega⟩
        have hi : i < ps.length := by omega
        have h1 : decide ((i : Int) < ((ps.length : Nat) : Int)) = true := decide_eq_true (by omega)
        have h2 : decide ((0 : Int) ≤ (i : Int)) = true := decide_eq_true (by omega)
        have h3 : decide ((i : Int) < ((qs.length : Nat) : Int)) = true := decide_eq_true (by omega)
        have h4 : i < qs.length := by omega
        obtain ⟨A, G, Tx, C⟩ := a.cn hi
        obtain ⟨A', G', T', D⟩ := b.cn h4
        have ec := ct_cn C
        have ed := ct_cn D
        rw [rd74_at hi] at ec
        rw [rd74_at h4] at ed
        have la := C.la
        have lg := C.lg
        have lt := C.lt
        have ex : ∀ {α : Type} [DecidableEq α] (p q : α), decide (some p = some q) = decide (p = q) := fun p q => by simp
        rw [List.range'_succ, List.all_cons, List.getElem?_eq_getElem hi, List.getElem?_eq_getElem h4, Option.map_some, Option.map_some, ec, ed, ex, dec4]
        rw [run_succ]; simp only [step22, a.h.okA, a.h.okR, a.h.rdc, b.h.okA, b.h.rdc, h1, h2, h3, cond_true, C.a.okR, C.a.rdc, D.a.okR, D.a.rdc, C.g.okR, C.g.rdc, D.g.okR, D.g.rdc, C.t.okR, C.t.rdc, D.t.okR, D.t.rdc, beq_dec]
        rw [rd74_at hi, rd74_at h4] at *
        by_cases c0 : ps[i].f0 = qs[i].f0
        · rw [decide_eq_true c0]
          simp only [Bool.not_true, cond_false, Bool.true_and]
          by_cases lA : A.length = A'.length
          · rw [show (((A.length : Nat) : Int) != ((A'.length : Nat) : Int)) = false by simp [lA], cond_false]
            by_cases lG : G.length = G'.length
            · rw [show (((G.length : Nat) : Int) != ((G'.length : Nat) : Int)) = false by simp [lG], cond_false]
              by_cases lT : Tx.length = T'.length
              · rw [show (((Tx.length : Nat) : Int) != ((T'.length : Nat) : Int)) = false by simp [lT], cond_false]
                rw [run_succ]; simp only [step22]
                refine s11 C.a D.a lA la (4000 * d + 2003) _ (fun eA k1 hk1 => ?_) (fun nA => by rw [decide_eq_false nA]; rfl) A.length 0 kk (by omega) (by omega) fun b hb => by omega
                rw [decide_eq_true eA, Bool.true_and]
                refine s16 C.g D.g lG lg (4000 * d + 1002) _ (fun eG k2 hk2 => ?_) (fun nG => by rw [decide_eq_false nG]; rfl) G.length 0 k1 (by omega) (by omega) fun b hb => by omega
                rw [decide_eq_true eG, Bool.true_and]
                refine s21 C.t D.t lT lt (4000 * d + 1) _ (fun eT k3 hk3 => ?_) (fun nT => by rw [decide_eq_false nT]; rfl) Tx.length 0 k2 (by omega) (by omega) fun b hb => by omega
                rw [decide_eq_true eT, Bool.true_and, w64_up (show i < 9223372036854775807 by omega)]
                exact ih (i + 1) k3 (by omega) (by omega)
              · rw [show (((Tx.length : Nat) : Int) != ((T'.length : Nat) : Int)) = true by simp; omega, cond_true, decide_eq_false (fun e : Tx = T' => lT (by rw [e]))]
                cases decide (A = A') <;> cases decide (G = G') <;> rfl
            · rw [show (((G.length : Nat) : Int) != ((G'.length : Nat) : Int)) = true by simp; omega, cond_true, decide_eq_false (fun e : G = G' => lG (by rw [e]))]
              cases decide (A = A') <;> rfl
          · rw [show (((A.length : Nat) : Int) != ((A'.length : Nat) : Int)) = true by simp; omega, cond_true, decide_eq_false (fun e : A = A' => lA (by rw [e]))]
            rfl
        · rw [decide_eq_false c0]
          rfl
    have := key ps.length 0 k (by omega) (by omega)
    rw [← List.range_eq_range', cv_dec hl] at this
    exact this
  · rw [show (((ps.length : Nat) : Int) != ((qs.length : Nat) : Int)) = true by simp; omega, cond_true, decide_eq_false (cv_ne hl)]

theorem Vw.vv {v : S45} (h : Vw n cs v) : ∃ ps, Vv n cs v.f0 ps := by
  obtain ⟨ps, h1, h2, h3⟩ := h
  exact ⟨ps, h1, h2, h3⟩
/-- FnBytesSame. -/
theorem ok7 (k : Nat) (hk : 40000 < k) (code : List Int) (hc : ∀ x ∈ code, 0 ≤ x ∧ x ≤ 255) : ∃ cs', f7 k (cs, code) = some (true, cs') := by
  unfold f7 start7
  simp only
  cases decide (((code.length : Nat) : Int) > 1048576) with
  | true => exact ⟨_, rfl⟩
  | false =>
    obtain ⟨⟨⟨a, b⟩, cs1⟩, e, va, vb⟩ := ok26 (cs0 := cs) k hk code hc
    simp only at va vb
    obtain ⟨ps, ha⟩ := va.vv
    obtain ⟨qs, hb⟩ := vb.vv
    simp only [cond_false, e, Option.bind_some, eq24 ha hb k (by omega), eq22 ha hb k (by omega), eq24 hb ha k (by omega), eq24 ha ha k (by omega), eq27 ha hb k (by omega)]
    by_cases c : cv cs1 ps = cv cs1 qs
    · have c' : cv cs1 qs = cv cs1 ps := c.symm
      exact ⟨cs1, by simp [c]⟩
    · have c' : ¬ cv cs1 qs = cv cs1 ps := fun h => c h.symm
      exact ⟨cs1, by simp [c, c']⟩
end
end Go.Sx
