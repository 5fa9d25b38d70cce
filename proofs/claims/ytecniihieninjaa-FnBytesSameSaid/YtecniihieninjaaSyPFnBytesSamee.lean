/- The plain law FnBytesSame, over what its functions compute: a part. No further condition. -/
import Derived.Test.YtecniihieninjaaSyPFnBytesSamed
set_option linter.unusedVariables false
set_option linter.unusedSimpArgs false
namespace Go.Sx
open Go.RowKit
set_option linter.unusedVariables false
set_option linter.unusedSimpArgs false
section
variable {n : Nat} {m : S89} {V : MV} {cs : H}

/-- PagesOk. -/
def PgOk (T : List ByteArray) (R : List Int) (i : Nat) : Prop := ∀ a : Nat, a < i → (rd3 R a = 0 ∧ (rd9 T a).size = 0) ∨ (rd3 R a ≠ 0 ∧ (rd9 T a).size = 4)
theorem ok84 (K : Nat) {p : S86} {T : List ByteArray} {R : List Int} (a : Hd n cs p.f0 9 T) (b : Hd n cs p.f1 3 R) (hT : T.length = 12) (hR : R.length = 12) : ∀ (d i k : Nat), i + d = 12 → 3 * d + 1 ≤ k → PgOk T R i →
    Okk (run (step84 (f31 K)) k (J84.j4 (i : Int) cs p.f0 p.f1)) (fun r => r.2 = cs ∧ (r.1 = true → PgOk T R 12) ∧ ((∀ a : Nat, a < 12 → rd3 R a = 0 ∧ (rd9 T a).size = 0) → r.1 = true))
  | 0, i, k, h, hk, P => by
    obtain ⟨k, rfl⟩ : ∃ j, k = j + 1 := ⟨k - 1, by omega⟩
    obtain rfl : i = 12 := by omega
    rw [run_succ]; simp only [step84, a.okR, a.rdc, cond_true]
    have e : decide (((12 : Nat) : Int) < ((T.length : Nat) : Int)) = false := decide_eq_false (by omega)
    rw [e]; exact .ret ⟨rfl, fun _ => P, fun _ => rfl⟩
  | d + 1, i, k, h, hk, P => by
    obtain ⟨k, rfl⟩ : ∃ j, k = j + 3 := ⟨k - 3, by omega⟩
    have e0 : decide ((0 : Int) ≤ (i : Int)) = true := decide_eq_true (by omega)
    have e1 : decide ((i : Int) < ((T.length : Nat) : Int)) = true := decide_eq_true (by omega)
    have e2 : decide ((i : Int) < ((R.length : Nat) : Int)) = true := decide_eq_true (by omega)
    have j9 : ∀ z : Int, ((z = 0 ∧ rd3 R i = 0) ∨ (z = 4 ∧ rd3 R i ≠ 0)) → Okk (run (step84 (f31 K)) (k + 2) (J84.j9 (i : Int) z cs p.f0 p.f1)) (fun r => r.2 = cs ∧ (r.1 = true → PgOk T R 12) ∧ ((∀ a : Nat, a < 12 → rd3 R a = 0 ∧ (rd9 T a).size = 0) → r.1 = true)) := by
      intro z hz
      rw [run_succ]; simp only [step84, a.okA, a.rdc, b.okA, b.rdc, e0, e1, e2, cond_true, ok31, Option.bind_some]
      refine .cnd (fun c => .ret ⟨rfl, fun h => (by cases h), fun h => ?_⟩) fun _ => .cnd (fun c => .ret ⟨rfl, fun h => (by cases h), fun h => ?_⟩) fun c => ?_
      · have := (h i (by omega)).1
        rw [this] at c; cases c
      · have h3 := h i (by omega)
        have c : ¬ (((rd9 T (i : Int)).size : Nat) : Int) = z := by simpa using c
        rcases hz with ⟨rfl, _⟩ | ⟨_, q⟩
        · exact absurd (by rw [h3.2]; rfl) c
        · exact absurd h3.1 q
      · have c : (((rd9 T (i : Int)).size : Nat) : Int) = z := by simpa using c
        rw [run_succ]; simp only [step84]
        rw [wsucc (by omega)]
        refine ok84 K a b hT hR d (i + 1) k (by omega) (by omega) fun q hq => ?_
        by_cases w : q = i
        · rw [w]
          rcases hz with ⟨rfl, z2⟩ | ⟨rfl, z2⟩
          · exact .inl ⟨z2, by omega⟩
          · exact .inr ⟨z2, by omega⟩
        · exact P q (by omega)
    rw [run_succ]; simp only [step84, a.okR, a.rdc, b.okA, b.rdc, e0, e1, e2, cond_true]
    exact .cnd (fun c => j9 0 (.inl ⟨rfl, by simpa using c⟩)) fun c => j9 4 (.inr ⟨rfl, by simpa using c⟩)
theorem ok84' (k : Nat) (hk : 100 < k) {p : S86} {T : List ByteArray} {R : List Int} (a : Hd n cs p.f0 9 T) (b : Hd n cs p.f1 3 R) (hT : T.length = 12) (hR : R.length = 12) :
    Okk (f84 k (cs, p)) (fun r => r.2 = cs ∧ (r.1 = true → PgOk T R 12) ∧ ((∀ a : Nat, a < 12 → rd3 R a = 0 ∧ (rd9 T a).size = 0) → r.1 = true)) := by
  unfold f84 start84
  simp only [a.okR, a.rdc, b.okR, b.rdc, cond_true, ok31, Option.bind_some]
  obtain ⟨k', ek⟩ : ∃ q, k = q + 1 := ⟨k - 1, by omega⟩
  refine .cnd (fun c => ?_) fun _ => .cnd (fun c => ?_) fun _ => ?_
  · have c : ¬ ((T.length : Nat) : Int) = ((R.length : Nat) : Int) := by simpa using c
    omega
  · rw [hT] at c; cases c
  · rw [show run (step84 (f31 k)) k (J84.j3 cs p.f0 p.f1) = run (step84 (f31 k)) (k' + 1) (J84.j3 cs p.f0 p.f1) from by rw [← ek], run_succ]
    simp only [step84]
    exact ok84 k a b hT hR 12 0 k' (by omega) (by omega) fun q hq => by omega

/-- l3Space. -/
theorem ok85 (K : Nat) (hK : 3000 < K) {x1 x2 : Nat} {xs ys : List S76} (a : Hz n cs x1 76 xs) (hx : xs.length ≤ 1000) (b : Hz n cs x2 116 ys) (hy : ys.length = 16) (x0 : Bool) : ∀ (d i k : Nat), i + d = 16 → 3 * d + 1 ≤ k →
    Okk (run (step85 (f31 K) (f76 K) (f102 K)) k (J85.j6 (i : Int) cs x0 x1 x2)) (fun r => r.2 = cs)
  | 0, i, k, h, hk => by
    obtain ⟨k, rfl⟩ : ∃ j, k = j + 1 := ⟨k - 1, by omega⟩
    have e : decide ((i : Int) < 16) = false := decide_eq_false (by omega)
    rw [run_succ]; simp only [step85, e]
    exact .ret rfl
  | d + 1, i, k, h, hk => by
    obtain ⟨k, rfl⟩ : ∃ j, k = j + 3 := ⟨k - 3, by omega⟩
    have e : decide ((i : Int) < 16) = true := decide_eq_true (by omega)
    have e0 : decide ((0 : Int) ≤ (i : Int)) = true := decide_eq_true (by omega)
    have e1 : decide ((i : Int) < ((ys.length : Nat) : Int)) = true := decide_eq_true (by omega)
    have j7 : ∀ k2, 3 * d + 2 ≤ k2 → Okk (run (step85 (f31 K) (f76 K) (f102 K)) k2 (J85.j7 (i : Int) cs x0 x1 x2)) (fun r => r.2 = cs) := by
      intro k2 hk2
      obtain ⟨k2, rfl⟩ : ∃ j, k2 = j + 1 := ⟨k2 - 1, by omega⟩
      rw [run_succ]; simp only [step85]
      rw [wsucc (by omega)]
      exact ok85 K hK a hx b hy x0 d (i + 1) k2 (by omega) (by omega)
    rw [run_succ]; simp only [step85, e, b.okA, b.rdc, e0, e1, cond_true]
    refine .bnd (ok76' K (by omega) a hx (i : Int)) fun r hr => ?_
    obtain ⟨r1, r2⟩ := r
    obtain ⟨er, hr⟩ := hr
    simp only at er hr ⊢
    subst er
    refine .cnd (fun _ => .cnd (fun _ => .ret rfl) fun _ => j7 _ (by omega)) fun _ => .cnd (fun _ => .ret rfl) fun c => ?_
    have c : ¬ (r1 < 0) := by simpa using c
    have h2 := hr.resolve_left (by omega)
    rw [ok31, Option.bind_some]
    refine .cnd (fun _ => .ret rfl) fun _ => ?_
    have d5 : decide ((0 : Int) ≤ r1) = true := decide_eq_true h2.1
    have d6 : decide (r1 < ((xs.length : Nat) : Int)) = true := decide_eq_true h2.2
    rw [run_succ]; simp only [step85, a.okA, a.rdc, d5, d6, cond_true]
    exact .cnd (fun _ => .cnd (fun _ => .ret rfl) fun _ => j7 _ (by omega)) fun _ => j7 _ (by omega)
theorem ok85' (k : Nat) (hk : 3000 < k) {x : S114} {xs ys : List S76} (a : Hz n cs x.f1 76 xs) (hx : xs.length ≤ 1000) (b : Hz n cs x.f2 116 ys) :
    Okk (f85 k (cs, x)) (fun r => r.2 = cs ∧ (r.1 = true → x.f0 = true → ys.length = 16) ∧ (x.f0 = false → xs = [] → ys = [] → r.1 = true)) := by
  unfold f85 start85
  simp only [a.okR, a.rdc, b.okR, b.rdc, cond_true]
  refine .cnd (fun c => ?_) fun c => ?_
  · have c : x.f0 = false := by simpa using c
    refine .cnd (fun _ => .ret ⟨rfl, fun _ h => (by rw [c] at h; cases h), fun _ _ h => by simp [h]⟩) fun c2 => .ret ⟨rfl, fun h => (by cases h), fun _ h _ => ?_⟩
    rw [h] at c2; simp at c2
  · have c : x.f0 = true := by simpa using c
    refine .bnd (ok102' k hk a hx) fun r hr => ?_
    obtain ⟨r1, r2⟩ := r
    obtain ⟨er, hr⟩ := hr
    simp only at er hr ⊢
    subst er
    have nf : ∀ P : Prop, (x.f0 = false → P) := fun P h => by rw [c] at h; cases h
    simp only [b.okR, b.rdc, cond_true]
    refine .cnd (fun _ => .ret ⟨rfl, fun h => (by cases h), nf _⟩) fun _ => .cnd (fun _ => .ret ⟨rfl, fun h => (by cases h), nf _⟩) fun c2 => ?_
    have c2 : ys.length = 16 := by
      have : ((ys.length : Nat) : Int) = 16 := by simpa using c2
      omega
    obtain ⟨k', ek⟩ : ∃ q, k = q + 1 := ⟨k - 1, by omega⟩
    rw [show run (step85 (f31 k) (f76 k) (f102 k)) k (J85.j5 r2 x.f0 x.f1 x.f2) = run (step85 (f31 k) (f76 k) (f102 k)) (k' + 1) (J85.j5 r2 x.f0 x.f1 x.f2) from by rw [← ek], run_succ]
    simp only [step85]
    exact (ok85 k hk a hx b c2 x.f0 16 0 k' (by omega) (by omega)).mono fun r hr => ⟨hr, fun _ _ => c2, nf _⟩

/-- Sizes, whatever memory holds. -/
structure Sz (V : MV) : Prop where
  nt : V.rt.length = 12
  nr : V.rr.length = 12
  mt : V.st.length = 12
  mr : V.sr.length = 12
  np : V.ps.length = 5
  sl : ∀ i, i < 5 → (V.s i).length ≤ 16
  al : ∀ i, i < 5 → (V.a i).length ≤ 7
theorem Inv.sz (I : Inv m V) : Sz V := ⟨I.nt, I.nr, I.mt, I.mr, I.np, I.le, fun i hi => by have := I.al i hi; omega⟩

/-- l3Told. -/
def Tl (V : MV) (q a : Int) (i j : Nat) (c : Nat) : Prop := (c = 0 → ∀ x y : Nat, (x < i ∨ (x = i ∧ y < j)) → y < (V.s x).length → tel q a (rd116 (V.s x) (y : Int)) = false) ∧ (0 < c → ∃ x y : Nat, x < 5 ∧ y < (V.s x).length)
theorem ok86 (q a : Int) (S : Sz V) : ∀ (e i k c : Nat), i + e = 5 → 60 * e + 1 ≤ k → c ≤ 16 * i → Rep n cs m V → Tl V q a i 0 c →
    Okk (run step86 k (J86.j3 q a (c : Int) (i : Int) cs m.f0 m.f1 m.f2 m.f3 m.f4 m.f5)) (fun r => r.2 = cs ∧ ∃ c : Nat, r.1 = (c : Int) ∧ Tl V q a 5 0 c)
  | 0, i, k, c, he, hk, hc, R, P => by
    obtain ⟨k, rfl⟩ : ∃ j, k = j + 1 := ⟨k - 1, by omega⟩
    obtain rfl : i = 5 := by omega
    rw [run_succ]; simp only [step86, R.ps.okR, R.ps.rdc, cond_true]
    have e : decide (((5 : Nat) : Int) < ((V.ps.length : Nat) : Int)) = false := decide_eq_false (by rw [S.np]; omega)
    rw [e]; exact .ret ⟨rfl, c, rfl, P⟩
  | e + 1, i, k, c, he, hk, hc, R, P => by
    have hi : i < V.ps.length := by rw [S.np]; omega
    have h16 := S.sl i (by omega)
    obtain ⟨o0, o1⟩ := R.so hi
    have o2 : okR 116 cs (rd114 V.ps (i : Int)).f2 = true := (R.sl i hi).okR
    have e0 : decide ((0 : Int) ≤ (i : Int)) = true := decide_eq_true (by omega)
    have e1 : decide ((i : Int) < ((V.ps.length : Nat) : Int)) = true := decide_eq_true (by omega)
    have inner : ∀ (d j k c : Nat), j + d = (V.s i).length → 3 * d + 60 * e + 2 ≤ k → c ≤ 16 * i + j → Tl V q a i j c →
        Okk (run step86 k (J86.j6 q a (c : Int) (i : Int) (j : Int) cs m.f0 m.f1 m.f2 m.f3 m.f4 m.f5)) (fun r => r.2 = cs ∧ ∃ c : Nat, r.1 = (c : Int) ∧ Tl V q a 5 0 c) := by
      intro d
      induction d with
      | zero =>
        intro j k c hd hk hc P
        obtain ⟨k, rfl⟩ : ∃ j, k = j + 1 := ⟨k - 1, by omega⟩
        have e3 : decide ((j : Int) < (((V.s i).length : Nat) : Int)) = false := decide_eq_false (by omega)
        rw [run_succ]; simp only [step86, R.ps.okA, R.ps.rdc, e0, e1, o1, o2, e3, cond_true, cond_false]
        rw [wsucc (by omega)]
        exact ok86 q a S e (i + 1) k c (by omega) (by omega) (by omega) R ⟨fun h x y hx hy => P.1 h x y (by
          by_cases w : x = i
          · subst w; exact .inr ⟨rfl, by omega⟩
          · exact .inl (by omega)) hy, P.2⟩
      | succ d ih =>
        intro j k c hd hk hc P
        obtain ⟨k, rfl⟩ : ∃ j, k = j + 3 := ⟨k - 3, by omega⟩
        have hj : j < (V.s i).length := by omega
        have e2 : decide ((0 : Int) ≤ (j : Int)) = true := decide_eq_true (by omega)
        have e3 : decide ((j : Int) < (((V.s i).length : Nat) : Int)) = true := decide_eq_true (by omega)
        have j7 : ∀ k c, 3 * d + 60 * e + 3 ≤ k → c ≤ 16 * i + (j + 1) → Tl V q a i (j + 1) c → Okk (run step86 k (J86.j7 q a (c : Int) (i : Int) (j : Int) cs m.f0 m.f1 m.f2 m.f3 m.f4 m.f5)) (fun r => r.2 = cs ∧ ∃ c : Nat, r.1 = (c : Int) ∧ Tl V q a 5 0 c) := by
          intro k c hk hc P
          obtain ⟨k, rfl⟩ : ∃ j, k = j + 1 := ⟨k - 1, by omega⟩
          rw [run_succ]; simp only [step86]
          rw [wsucc (by omega)]
          exact ih (j + 1) k c (by omega) (by omega) hc P
        have no : tel q a (rd116 (V.s i) (j : Int)) = false → Tl V q a i (j + 1) c := fun h => ⟨fun hz x y hx hy => by
          by_cases w : x = i ∧ y = j
          · rw [w.1, w.2]; exact h
          · exact P.1 hz x y (by omega) hy, P.2⟩
        rw [run_succ]; simp only [step86, R.ps.okA, R.ps.rdc, e0, e1, o0, o1, o2, e2, e3, cond_true]
        refine .cnd (fun c1 => .cnd (fun c2 => ?_) fun c2 => j7 _ c (by omega) (by omega) (no ?_)) fun c1 => j7 _ c (by omega) (by omega) (no ?_)
        · rw [run_succ]; simp only [step86]
          rw [wsucc (by omega)]
          exact j7 _ (c + 1) (by omega) (by omega) ⟨fun h => by omega, fun _ => ⟨i, j, by omega, hj⟩⟩
        · unfold tel; rw [c1, c2]; rfl
        · unfold tel; rw [c1]; rfl
    obtain ⟨k, rfl⟩ : ∃ j, k = j + 1 := ⟨k - 1, by omega⟩
    rw [run_succ]; simp only [step86, R.ps.okR, R.ps.rdc, e1, cond_true]
    exact inner (V.s i).length 0 k c (by omega) (by omega) (by omega) P
theorem ok86' (k : Nat) (hk : 1000 < k) (S : Sz V) (R : Rep n cs m V) (q a : Int) : Okk (fstO (f86 k) (cs, m, q, a)) (fun r => ∃ c : Nat, r = (c : Int) ∧ Tl V q a 5 0 c) := by
  obtain ⟨⟨r, cs'⟩, e, e2, c, h1, h2⟩ := ok86 q a S (m := m) 5 0 k 0 (by omega) (by omega) (by omega) R ⟨fun _ x y h => by omega, fun h => by omega⟩
  have e' : f86 k (cs, m, q, a) = some (r, cs') := e
  refine ⟨r, ?_, c, h1, h2⟩
  unfold fstO
  rw [e']

/-- l3Alone. -/
theorem ok87 (K : Nat) (hK : 3000 < K) (q a : Int) (S : Sz V) : ∀ (e i k : Nat) (c : Int) (b1 b2 : Bool), i + e = 5 → 80 * e + 1 ≤ k → Rep n cs m V → ((∀ x, x < 5 → V.s x = []) → c < 2) →
    Okk (run (step87 (f89 K)) k (J87.j5 q a c b1 b2 (i : Int) cs m.f0 m.f1 m.f2 m.f3 m.f4 m.f5)) (fun r => r.2 = cs ∧ ((∀ x, x < 5 → V.s x = []) → r.1 = true))
  | 0, i, k, c, b1, b2, he, hk, R, P => by
    obtain ⟨k, rfl⟩ : ∃ j, k = j + 1 := ⟨k - 1, by omega⟩
    obtain rfl : i = 5 := by omega
    rw [run_succ]; simp only [step87, R.ps.okR, R.ps.rdc, cond_true]
    have e : decide (((5 : Nat) : Int) < ((V.ps.length : Nat) : Int)) = false := decide_eq_false (by rw [S.np]; omega)
    rw [e, cond_false]
    refine .cnd (fun _ => .ret ⟨rfl, fun _ => rfl⟩) fun h2 => .cnd (fun _ => .ret ⟨rfl, fun _ => rfl⟩) fun _ => .ret ⟨rfl, fun h => ?_⟩
    have := P h
    have := of_decide_eq_false h2
    omega
  | e + 1, i, k, c, b1, b2, he, hk, R, P => by
    have hi : i < V.ps.length := by rw [S.np]; omega
    have h16 := S.sl i (by omega)
    have h7 := S.al i (by omega)
    obtain ⟨o0, o1⟩ := R.so hi
    have o2 : okR 116 cs (rd114 V.ps (i : Int)).f2 = true := (R.sl i hi).okR
    have e0 : decide ((0 : Int) ≤ (i : Int)) = true := decide_eq_true (by omega)
    have e1 : decide ((i : Int) < ((V.ps.length : Nat) : Int)) = true := decide_eq_true (by omega)
    have inner : ∀ (d j k : Nat) (c : Int) (b1 b2 : Bool), j + d = (V.s i).length → 4 * d + 80 * e + 2 ≤ k → ((∀ x, x < 5 → V.s x = []) → c < 2) →
        Okk (run (step87 (f89 K)) k (J87.j8 q a c b1 b2 (i : Int) (j : Int) cs m.f0 m.f1 m.f2 m.f3 m.f4 m.f5)) (fun r => r.2 = cs ∧ ((∀ x, x < 5 → V.s x = []) → r.1 = true)) := by
      intro d
      induction d with
      | zero =>
        intro j k c b1 b2 hd hk P
        obtain ⟨k, rfl⟩ : ∃ j, k = j + 1 := ⟨k - 1, by omega⟩
        have e3 : decide ((j : Int) < (((V.s i).length : Nat) : Int)) = false := decide_eq_false (by omega)
        rw [run_succ]; simp only [step87, R.ps.okA, R.ps.rdc, e0, e1, o1, o2, e3, cond_true, cond_false]
        rw [wsucc (by omega)]
        exact ok87 K hK q a S e (i + 1) k c b1 b2 (by omega) (by omega) R P
      | succ d ih =>
        intro j k c b1 b2 hd hk P
        obtain ⟨k, rfl⟩ : ∃ j, k = j + 4 := ⟨k - 4, by omega⟩
        have hj : j < (V.s i).length := by omega
        have nope : (∀ x, x < 5 → V.s x = []) → ∀ Q : Prop, Q := fun h Q => by
          rw [h i (by omega)] at hj; simp at hj
        have e2 : decide ((0 : Int) ≤ (j : Int)) = true := decide_eq_true (by omega)
        have e3 : decide ((j : Int) < (((V.s i).length : Nat) : Int)) = true := decide_eq_true (by omega)
        have j9 : ∀ k c b1 b2, 4 * d + 80 * e + 3 ≤ k → Okk (run (step87 (f89 K)) k (J87.j9 q a c b1 b2 (i : Int) (j : Int) cs m.f0 m.f1 m.f2 m.f3 m.f4 m.f5)) (fun r => r.2 = cs ∧ ((∀ x, x < 5 → V.s x = []) → r.1 = true)) := by
          intro k c b1 b2 hk
          obtain ⟨k, rfl⟩ : ∃ j, k = j + 1 := ⟨k - 1, by omega⟩
          rw [run_succ]; simp only [step87]
          rw [wsucc (by omega)]
          exact ih (j + 1) k c b1 b2 (by omega) (by omega) fun h => nope h _
        have j14 : ∀ k c b1 b2, 4 * d + 80 * e + 4 ≤ k → Okk (run (step87 (f89 K)) k (J87.j14 q a c b1 b2 (i : Int) (j : Int) cs m.f0 m.f1 m.f2 m.f3 m.f4 m.f5)) (fun r => r.2 = cs ∧ ((∀ x, x < 5 → V.s x = []) → r.1 = true)) := by
          intro k c b1 b2 hk
          obtain ⟨k, rfl⟩ : ∃ j, k = j + 1 := ⟨k - 1, by omega⟩
          rw [run_succ]; simp only [step87, R.ps.okA, R.ps.rdc, e0, e1, cond_true]
          refine .cnd (fun _ => j9 _ _ _ _ (by omega)) fun _ => ?_
          refine .bnd (ok89 K (by omega) (x := rd114 V.ps (i : Int)) (R.al i hi) (by omega) (j : Int)) fun r hr => ?_
          obtain ⟨r1, r2⟩ := r
          simp only at hr ⊢
          subst hr
          exact j9 _ _ _ _ (by omega)
        rw [run_succ]; simp only [step87, R.ps.okA, R.ps.rdc, e0, e1, o0, o1, o2, e2, e3, cond_true]
        refine .cnd (fun c1 => .cnd (fun c2 => ?_) fun c2 => j9 _ _ _ _ (by omega)) fun c1 => j9 _ _ _ _ (by omega)
        rw [run_succ]; simp only [step87]
        exact .cnd (fun _ => j14 _ _ _ _ (by omega)) fun _ => j14 _ _ _ _ (by omega)
    obtain ⟨k, rfl⟩ : ∃ j, k = j + 1 := ⟨k - 1, by omega⟩
    rw [run_succ]; simp only [step87, R.ps.okR, R.ps.rdc, e1, cond_true]
    exact inner (V.s i).length 0 k c b1 b2 (by omega) (by omega) P
theorem ok87' (k : Nat) (hk : 3000 < k) (S : Sz V) (R : Rep n cs m V) (q a : Int) : Okk (f87 k (cs, m, q, a)) (fun r => r.2 = cs ∧ ((∀ x, x < 5 → V.s x = []) → r.1 = true)) := by
  unfold f87 start87
  exact ok87 k hk q a S 5 0 k 0 false false (by omega) (by omega) R (fun _ => by omega)

/-- What MemOk tells. -/
structure MOk (V : MV) : Prop where
  p1 : PgOk V.rt V.rr 12
  p2 : PgOk V.st V.sr 12
  live : ∀ i, i < 5 → (V.p i).f0 = true → (V.s i).length = 16
  rng : ∀ i j : Nat, i < 5 → j < (V.s i).length → (rd116 (V.s i) (j : Int)).f0 = 0 ∨ (0 ≤ (rd116 (V.s i) (j : Int)).f1 ∧ (rd116 (V.s i) (j : Int)).f1 < 12)
  u1 : ∀ i j : Nat, i < 5 → j < (V.s i).length → (rd116 (V.s i) (j : Int)).f0 = 1 → rd3 V.rr (rd116 (V.s i) (j : Int)).f1 ≠ 0
  u2 : ∀ i j : Nat, i < 5 → j < (V.s i).length → (rd116 (V.s i) (j : Int)).f0 = 2 → rd3 V.sr (rd116 (V.s i) (j : Int)).f1 ≠ 0
/-- Memory of which nothing is live. -/
structure New (m : S89) (V : MV) : Prop where
  rr : ∀ a : Nat, a < 12 → rd3 V.rr a = 0 ∧ (rd9 V.rt a).size = 0
  sr : ∀ a : Nat, a < 12 → rd3 V.sr a = 0 ∧ (rd9 V.st a).size = 0
  p : ∀ i, i < 5 → (V.p i).f0 = false
  s : ∀ i, i < 5 → V.s i = []
  a : ∀ i, i < 5 → V.a i = []
  h : 0 ≤ m.f5 ∧ m.f5 < 12
end
end Go.Sx
namespace Go.Sx
open Go.RowKit
set_option linter.unusedVariables false
set_option linter.unusedSimpArgs false
section
variable {n : Nat} {m : S89} {V : MV} {cs : H}

abbrev QOk (cs : H) (m : S89) (V : MV) (r : Bool × H) : Prop := r.2 = cs ∧ (r.1 = true → MOk V) ∧ (New m V → r.1 = true)
noncomputable abbrev S65 (K : Nat) := step65 (f31 K) (f84 K) (f85 K) (fstO (f86 K)) (f87 K)
theorem fls {P : Prop} (h : P → False) : QOk cs m V (false, cs) ∨ P → QOk cs m V (false, cs) := fun q => q.resolve_right h

def Z1 (V : MV) (t : Nat) : Prop := ∀ b : Nat, b < t → rd3 V.rr b = 0 → ∀ x y : Nat, x < 5 → y < (V.s x).length → tel 1 b (rd116 (V.s x) (y : Int)) = false
def Z2 (V : MV) (t : Nat) : Prop := ∀ b : Nat, b < t → rd3 V.sr b = 0 → ∀ x y : Nat, x < 5 → y < (V.s x).length → tel 2 b (rd116 (V.s x) (y : Int)) = false
structure Pre (V : MV) : Prop where
  p1 : PgOk V.rt V.rr 12
  p2 : PgOk V.st V.sr 12
  live : ∀ i, i < 5 → (V.p i).f0 = true → (V.s i).length = 16
  rng : ∀ i j : Nat, i < 5 → j < (V.s i).length → (rd116 (V.s i) (j : Int)).f0 = 0 ∨ (0 ≤ (rd116 (V.s i) (j : Int)).f1 ∧ (rd116 (V.s i) (j : Int)).f1 < 12)
theorem Pre.mok (P : Pre V) (z1 : Z1 V 12) (z2 : Z2 V 12) : MOk V := by
  refine ⟨P.p1, P.p2, P.live, P.rng, fun i j hi hj h => ?_, fun i j hi hj h => ?_⟩
  · obtain ⟨g0, g1⟩ := (P.rng i j hi hj).resolve_left (by omega)
    obtain ⟨b, eb⟩ : ∃ b : Nat, (rd116 (V.s i) (j : Int)).f1 = b := ⟨(rd116 (V.s i) (j : Int)).f1.toNat, by omega⟩
    rw [eb]
    intro hz
    have := z1 b (by omega) hz i j hi hj
    rw [tel_iff.2 ⟨h, eb⟩] at this; cases this
  · obtain ⟨g0, g1⟩ := (P.rng i j hi hj).resolve_left (by omega)
    obtain ⟨b, eb⟩ : ∃ b : Nat, (rd116 (V.s i) (j : Int)).f1 = b := ⟨(rd116 (V.s i) (j : Int)).f1.toNat, by omega⟩
    rw [eb]
    intro hz
    have := z2 b (by omega) hz i j hi hj
    rw [tel_iff.2 ⟨h, eb⟩] at this; cases this
theorem Tl.none {q a : Int} {c : Nat} (h : Tl V q a 5 0 c) (hs : ∀ i, i < 5 → V.s i = []) : c = 0 := by
  by_cases w : 0 < c
  · obtain ⟨x, y, hx, hy⟩ := h.2 w
    rw [hs x hx] at hy; simp at hy
  · omega

theorem m23 (K : Nat) (hK : 3000 < K) (S : Sz V) (R : Rep n cs m V) (P : Pre V) (z1 : Z1 V 12) : ∀ (d t k : Nat), t + d = 12 → 2 * d + 1 ≤ k → Z2 V t → Okk (run (S65 K) k (J65.j23 (t : Int) cs m.f0 m.f1 m.f2 m.f3 m.f4 m.f5)) (QOk cs m V)
  | 0, t, k, h, hk, z2 => by
    obtain ⟨k, rfl⟩ : ∃ j, k = j + 1 := ⟨k - 1, by omega⟩
    obtain rfl : t = 12 := by omega
    have e : decide (((12 : Nat) : Int) < 12) = false := decide_eq_false (by omega)
    rw [run_succ]; simp only [S65, step65, e]
    exact .ret ⟨rfl, fun _ => P.mok z1 z2, fun _ => rfl⟩
  | d + 1, t, k, h, hk, z2 => by
    obtain ⟨k, rfl⟩ : ∃ j, k = j + 2 := ⟨k - 2, by omega⟩
    have e : decide ((t : Int) < 12) = true := decide_eq_true (by omega)
    have e0 : decide ((0 : Int) ≤ (t : Int)) = true := decide_eq_true (by omega)
    have e1 : decide ((t : Int) < ((V.sr.length : Nat) : Int)) = true := decide_eq_true (by rw [S.mr]; omega)
    rw [run_succ]; simp only [S65, step65, e, cond_true]
    refine .bnd (ok86' K (by omega) S R 2 (t : Int)) fun r hr => ?_
    obtain ⟨c, rfl, hc⟩ := hr
    simp only [R.sr.okA, R.sr.rdc, e0, e1, cond_true]
    refine .cnd (fun w => .ret ⟨rfl, fun h => (by cases h), fun N => ?_⟩) fun w => ?_
    · have := (N.sr t (by omega)).1
      rw [hc.none N.s, this] at w; cases w
    · have w : (c : Int) = rd3 V.sr (t : Int) := by simpa using w
      refine .bnd (ok87' K hK S R 2 (t : Int)) fun r hr => ?_
      obtain ⟨r1, r2⟩ := r
      obtain ⟨e2, hr⟩ := hr
      simp only at e2 hr ⊢
      have e2 := e2.symm
      subst e2
      refine .cnd (fun w2 => .ret ⟨rfl, fun h => (by cases h), fun N => ?_⟩) fun w2 => ?_
      · rw [hr N.s] at w2; cases w2
      · rw [run_succ]; simp only [step65]
        rw [wsucc (by omega)]
        refine m23 K hK S R P z1 d (t + 1) k (by omega) (by omega) fun b hb hz x y hx hy => ?_
        by_cases q : b = t
        · subst q
          exact hc.1 (by omega) x y (.inl hx) hy
        · exact z2 b (by omega) hz x y hx hy
theorem m18 (K : Nat) (hK : 3000 < K) (S : Sz V) (R : Rep n cs m V) (P : Pre V) : ∀ (d t k : Nat), t + d = 12 → 2 * d + 30 ≤ k → Z1 V t → Okk (run (S65 K) k (J65.j18 (t : Int) cs m.f0 m.f1 m.f2 m.f3 m.f4 m.f5)) (QOk cs m V)
  | 0, t, k, h, hk, z1 => by
    obtain ⟨k, rfl⟩ : ∃ j, k = j + 1 := ⟨k - 1, by omega⟩
    obtain rfl : t = 12 := by omega
    have e : decide (((12 : Nat) : Int) < 12) = false := decide_eq_false (by omega)
    rw [run_succ]; simp only [S65, step65, e]
    exact m23 K hK S R P z1 12 0 k (by omega) (by omega) fun b hb => by omega
  | d + 1, t, k, h, hk, z1 => by
    obtain ⟨k, rfl⟩ : ∃ j, k = j + 2 := ⟨k - 2, by omega⟩
    have e : decide ((t : Int) < 12) = true := decide_eq_true (by omega)
    have e0 : decide ((0 : Int) ≤ (t : Int)) = true := decide_eq_true (by omega)
    have e1 : decide ((t : Int) < ((V.rr.length : Nat) : Int)) = true := decide_eq_true (by rw [S.nr]; omega)
    rw [run_succ]; simp only [S65, step65, e, cond_true]
    refine .bnd (ok86' K (by omega) S R 1 (t : Int)) fun r hr => ?_
    obtain ⟨c, rfl, hc⟩ := hr
    simp only [R.rr.okA, R.rr.rdc, e0, e1, cond_true]
    refine .cnd (fun w => .ret ⟨rfl, fun h => (by cases h), fun N => ?_⟩) fun w => ?_
    · have := (N.rr t (by omega)).1
      rw [hc.none N.s, this] at w; cases w
    · have w : (c : Int) = rd3 V.rr (t : Int) := by simpa using w
      refine .bnd (ok87' K hK S R 1 (t : Int)) fun r hr => ?_
      obtain ⟨r1, r2⟩ := r
      obtain ⟨e2, hr⟩ := hr
      simp only at e2 hr ⊢
      have e2 := e2.symm
      subst e2
      refine .cnd (fun w2 => .ret ⟨rfl, fun h => (by cases h), fun N => ?_⟩) fun w2 => ?_
      · rw [hr N.s] at w2; cases w2
      · rw [run_succ]; simp only [step65]
        rw [wsucc (by omega)]
        refine m18 K hK S R P d (t + 1) k (by omega) (by omega) fun b hb hz x y hx hy => ?_
        by_cases q : b = t
        · subst q
          exact hc.1 (by omega) x y (.inl hx) hy
        · exact z1 b (by omega) hz x y hx hy
theorem m4 (K : Nat) (hK : 3000 < K) (S : Sz V) (R : Rep n cs m V) (p1 : PgOk V.rt V.rr 12) (p2 : PgOk V.st V.sr 12) : ∀ (e i k : Nat), i + e = 5 → 70 * e + 60 ≤ k → (∀ x, x < i → (V.p x).f0 = true → (V.s x).length = 16) →
    (∀ x y : Nat, x < i → y < (V.s x).length → (rd116 (V.s x) (y : Int)).f0 = 0 ∨ (0 ≤ (rd116 (V.s x) (y : Int)).f1 ∧ (rd116 (V.s x) (y : Int)).f1 < 12)) → Okk (run (S65 K) k (J65.j4 (i : Int) cs m.f0 m.f1 m.f2 m.f3 m.f4 m.f5)) (QOk cs m V)
  | 0, i, k, h, hk, hl, hr => by
    obtain ⟨k, rfl⟩ : ∃ j, k = j + 1 := ⟨k - 1, by omega⟩
    obtain rfl : i = 5 := by omega
    have e : decide (((5 : Nat) : Int) < 5) = false := decide_eq_false (by omega)
    rw [run_succ]; simp only [S65, step65, e]
    exact m18 K hK S R ⟨p1, p2, hl, fun i j hi => hr i j hi⟩ 12 0 k (by omega) (by omega) fun b hb => by omega
  | e + 1, i, k, h, hk, hl, hr => by
    have hi : i < V.ps.length := by rw [S.np]; omega
    have h16 := S.sl i (by omega)
    have h7 := S.al i (by omega)
    obtain ⟨o0, o1⟩ := R.so hi
    have o2 : okR 116 cs (rd114 V.ps (i : Int)).f2 = true := (R.sl i hi).okR
    have e0 : decide ((0 : Int) ≤ (i : Int)) = true := decide_eq_true (by omega)
    have e1 : decide ((i : Int) < ((V.ps.length : Nat) : Int)) = true := decide_eq_true (by omega)
    have e5 : decide ((i : Int) < 5) = true := decide_eq_true (by omega)
    have inner : ((V.p i).f0 = true → (V.s i).length = 16) → ∀ (d j k : Nat), j + d = (V.s i).length → 3 * d + 70 * e + 61 ≤ k → (∀ y : Nat, y < j → (rd116 (V.s i) (y : Int)).f0 = 0 ∨ (0 ≤ (rd116 (V.s i) (y : Int)).f1 ∧ (rd116 (V.s i) (y : Int)).f1 < 12)) →
        Okk (run (S65 K) k (J65.j9 (i : Int) (j : Int) cs m.f0 m.f1 m.f2 m.f3 m.f4 m.f5)) (QOk cs m V) := by
      intro hli d
      induction d with
      | zero =>
        intro j k hd hk hj
        obtain ⟨k, rfl⟩ : ∃ j, k = j + 1 := ⟨k - 1, by omega⟩
        have e3 : decide ((j : Int) < (((V.s i).length : Nat) : Int)) = false := decide_eq_false (by omega)
        rw [run_succ]; simp only [S65, step65, R.ps.okA, R.ps.rdc, e0, e1, o1, o2, e3, cond_true, cond_false]
        rw [wsucc (by omega)]
        refine m4 K hK S R p1 p2 e (i + 1) k (by omega) (by omega) (fun x hx => ?_) fun x y hx hy => ?_
        · by_cases q : x = i
          · subst q; exact hli
          · exact hl x (by omega)
        · by_cases q : x = i
          · subst q; exact hj y (by omega)
          · exact hr x y (by omega) hy
      | succ d ih =>
        intro j k hd hk hj
        obtain ⟨k, rfl⟩ : ∃ j, k = j + 3 := ⟨k - 3, by omega⟩
        have hjl : j < (V.s i).length := by omega
        have nope : New m V → ∀ Q : Prop, Q := fun N Q => by
          rw [N.s i (by omega)] at hjl; simp at hjl
        have e2 : decide ((0 : Int) ≤ (j : Int)) = true := decide_eq_true (by omega)
        have e3 : decide ((j : Int) < (((V.s i).length : Nat) : Int)) = true := decide_eq_true (by omega)
        have j10 : ∀ k, 3 * d + 70 * e + 62 ≤ k → ((rd116 (V.s i) (j : Int)).f0 = 0 ∨ (0 ≤ (rd116 (V.s i) (j : Int)).f1 ∧ (rd116 (V.s i) (j : Int)).f1 < 12)) → Okk (run (S65 K) k (J65.j10 (i : Int) (j : Int) cs m.f0 m.f1 m.f2 m.f3 m.f4 m.f5)) (QOk cs m V) := by
          intro k hk hx
          obtain ⟨k, rfl⟩ : ∃ j, k = j + 1 := ⟨k - 1, by omega⟩
          rw [run_succ]; simp only [S65, step65]
          rw [wsucc (by omega)]
          refine ih (j + 1) k (by omega) (by omega) fun y hy => ?_
          by_cases q : y = j
          · rw [q]; exact hx
          · exact hj y (by omega)
        have j15 : ∀ x : S76, x = rd116 (V.s i) (j : Int) → Okk (run (S65 K) (k + 2) (J65.j15 (i : Int) (j : Int) 12 cs m.f0 m.f1 m.f2 m.f3 m.f4 m.f5 x.f0 x.f1 x.f2 x.f3)) (QOk cs m V) := by
          intro x hx
          rw [run_succ]; simp only [S65, step65]
          rw [w64_id (x := 12 - 1) (by omega) (by omega), ok31, Option.bind_some]
          refine .cnd (fun _ => .cnd (fun _ => .ret ⟨rfl, fun h => (by cases h), fun N => nope N _⟩) fun c => ?_) fun c => j10 _ (by omega) (.inl ?_)
          · rw [Bool.not_eq_false', Bool.and_eq_true] at c
            have c1 := of_decide_eq_true c.1
            have c2 := of_decide_eq_true c.2
            exact j10 _ (by omega) (.inr (by rw [← hx]; omega))
          · rw [← hx]; simpa using c
        rw [run_succ]; simp only [S65, step65, R.ps.okA, R.ps.rdc, e0, e1, o0, o1, o2, e2, e3, cond_true]
        exact .cnd (fun _ => j15 _ rfl) fun _ => j15 _ rfl
    obtain ⟨k, rfl⟩ : ∃ j, k = j + 1 := ⟨k - 1, by omega⟩
    rw [run_succ]; simp only [S65, step65, R.ps.okA, R.ps.rdc, e0, e1, e5, cond_true]
    refine .bnd (ok85' K hK (x := rd114 V.ps (i : Int)) (R.al i hi) (by omega) (R.sl i hi)) fun r hr => ?_
    obtain ⟨r1, r2⟩ := r
    obtain ⟨e2, h1, h2⟩ := hr
    simp only at e2 h1 h2 ⊢
    subst e2
    refine .cnd (fun w => .ret ⟨rfl, fun h => (by cases h), fun N => ?_⟩) fun w => ?_
    · rw [h2 (N.p i (by omega)) (N.a i (by omega)) (N.s i (by omega))] at w; cases w
    · exact inner (h1 (by simpa using w)) (V.s i).length 0 k (by omega) (by omega) fun y hy => by omega
/-- MemOk. -/
theorem ok65 (k : Nat) (hk : 3000 < k) (S : Sz V) (R : Rep n cs m V) : Okk (f65 k (cs, m)) (QOk cs m V) := by
  unfold f65 start65
  obtain ⟨k', ek⟩ : ∃ q, k = q + 1 := ⟨k - 1, by omega⟩
  refine .bnd (ok84' k (by omega) (p := ⟨m.f0, m.f1⟩) R.rt R.rr S.nt S.nr) fun r hr => ?_
  obtain ⟨r1, r2⟩ := r
  obtain ⟨e2, h1, h2⟩ := hr
  simp only at e2 h1 h2 ⊢
  subst e2
  refine .cnd (fun w => .ret ⟨rfl, fun h => (by cases h), fun N => ?_⟩) fun w => ?_
  · rw [h2 N.rr] at w; cases w
  have h1 := h1 (by simpa using w)
  refine .bnd (ok84' k (by omega) (p := ⟨m.f2, m.f3⟩) R.st R.sr S.mt S.mr) fun r hr => ?_
  obtain ⟨r1, r3⟩ := r
  obtain ⟨e2, g1, g2⟩ := hr
  simp only at e2 g1 g2 ⊢
  subst e2
  refine .cnd (fun w => .ret ⟨rfl, fun h => (by cases h), fun N => ?_⟩) fun w => ?_
  · rw [g2 N.sr] at w; cases w
  have g1 := g1 (by simpa using w)
  simp only [R.rr.okR, R.rr.rdc, R.sr.okR, R.sr.rdc, R.ps.okR, R.ps.rdc, S.nr, S.mr, S.np, cond_true, ok31, Option.bind_some]
  refine .cnd (fun w => by cases w) fun _ => .cnd (fun w => by cases w) fun _ => .cnd (fun w => by cases w) fun _ => .cnd (fun w => .ret ⟨rfl, fun h => (by cases h), fun N => ?_⟩) fun w => ?_
  · obtain ⟨a, b⟩ := N.h
    rw [decide_eq_true a, decide_eq_true (show m.f5 ≤ 11 by omega)] at w
    cases w
  · rw [show run (step65 (f31 k) (f84 k) (f85 k) (fstO (f86 k)) (f87 k)) k (J65.j3 r3 m.f0 m.f1 m.f2 m.f3 m.f4 m.f5) = run (step65 (f31 k) (f84 k) (f85 k) (fstO (f86 k)) (f87 k)) (k' + 1) (J65.j3 r3 m.f0 m.f1 m.f2 m.f3 m.f4 m.f5) from by rw [← ek], run_succ]
    simp only [step65]
    exact m4 k hk S R h1 g1 5 0 k' (by omega) (by omega) (fun x hx => by omega) fun x y hx => by omega
end
end Go.Sx
namespace Go.Sx
open Go.RowKit
set_option linter.unusedVariables false
set_option linter.unusedSimpArgs false
section
variable {n : Nat} {m : S89} {V : MV} {cs : H}

/-- PagesNew. -/
theorem ok93 (k : Nat) : f93 k (cs, 12) = some (((⟨cs.length + 1, (cs ++ [Cell.arr (T := TT) 9 (List.replicate 12 (⟨#[]⟩ : ByteArray))]).length + 1⟩ : S86), true), (cs ++ [Cell.arr (T := TT) 9 (List.replicate 12 (⟨#[]⟩ : ByteArray))]) ++ [Cell.arr (T := TT) 3 (List.replicate 12 (0 : Int))]) := by
  simp only [f93, start93, ok31, Option.bind_some]
  rfl
def V0 : MV := ⟨List.replicate 12 ⟨#[]⟩, List.replicate 12 0, List.replicate 12 ⟨#[]⟩, List.replicate 12 0, List.replicate 5 ⟨false, 0, 0⟩, List.replicate 5 [], List.replicate 5 []⟩
theorem V0_p {i : Nat} (hi : i < 5) : V0.p i = ⟨false, 0, 0⟩ := by
  unfold MV.p V0
  rw [rd114_at (by rw [List.length_replicate]; exact hi), List.getElem_replicate]
theorem V0_s (i : Nat) : V0.s i = [] := by
  unfold MV.s V0
  simp only [List.getD_eq_getElem?_getD, List.getElem?_replicate]
  split <;> rfl
theorem V0_a (i : Nat) : V0.a i = [] := by
  unfold MV.a V0
  simp only [List.getD_eq_getElem?_getD, List.getElem?_replicate]
  split <;> rfl
theorem V0_r {a : Nat} (ha : a < 12) : rd3 (List.replicate 12 0) (a : Int) = 0 ∧ (rd9 (List.replicate 12 (⟨#[]⟩ : ByteArray)) (a : Int)).size = 0 := by
  rw [rd3_at (by rw [List.length_replicate]; exact ha), rd9_at (by rw [List.length_replicate]; exact ha), List.getElem_replicate, List.getElem_replicate]
  exact ⟨rfl, rfl⟩
theorem New0 (h : m.f5 = 0) : New m V0 := ⟨fun a ha => V0_r ha, fun a ha => V0_r ha, fun i hi => by rw [V0_p hi], fun i _ => V0_s i, fun i _ => V0_a i, by omega⟩
theorem Inv0 (h : m.f5 = 0) : Inv m V0 := by
  have z : ∀ q a : Int, cnt q a V0.sl = 0 := fun q a => cnt_zero fun s hs x hx => by
    rw [List.eq_of_mem_replicate hs] at hx; simp at hx
  refine ⟨rfl, rfl, rfl, rfl, rfl, rfl, fun i hi h => ?_, fun i hi h => V0_s i, fun i hi => by rw [V0_a]; simp, fun a ha => ?_, fun a ha => ?_, fun a ha h => ?_, fun a ha h => ?_, fun s hs x hx => ?_, by omega⟩
  · rw [V0_p hi] at h; cases h
  · rw [z]; exact (V0_r ha).1.symm
  · rw [z]; exact (V0_r ha).1.symm
  · exact absurd (V0_r ha).1 h
  · exact absurd (V0_r ha).1 h
  · rw [List.eq_of_mem_replicate hs] at hx; simp at hx

/-- MemNew. -/
theorem ok68 (k : Nat) : Okk (f68 k (cs, ())) (fun r => Fr_ cs.length cs r.2 ∧ Rep cs.length r.2 r.1 V0 ∧ r.1.f5 = 0) := by
  unfold f68 start68
  simp only [ok93, Option.bind_some]
  refine .ret ⟨?_, ?_, rfl⟩
  · simp only [List.append_assoc]; exact .app' _
  · have A1 : Hd cs.length (cs ++ [Cell.arr (T := TT) 9 (List.replicate 12 (⟨#[]⟩ : ByteArray))]) (cs.length + 1) 9 (List.replicate 12 ⟨#[]⟩) := .new (t := 9) (Nat.le_refl _) _
    generalize h1 : cs ++ [Cell.arr (T := TT) 9 (List.replicate 12 (⟨#[]⟩ : ByteArray))] = c1 at A1
    have l1 : c1.length = cs.length + 1 := by rw [← h1]; simp
    have A2 : Hd cs.length (c1 ++ [Cell.arr (T := TT) 3 (List.replicate 12 (0 : Int))]) (c1.length + 1) 3 (List.replicate 12 (0 : Int)) := .new (t := 3) (by omega) _
    generalize h2 : c1 ++ [Cell.arr (T := TT) 3 (List.replicate 12 (0 : Int))] = c2 at A2
    have l2 : c2.length = cs.length + 2 := by rw [← h2]; simp [l1]
    have A3 : Hd cs.length (c2 ++ [Cell.arr (T := TT) 9 (List.replicate 12 (⟨#[]⟩ : ByteArray))]) (c2.length + 1) 9 (List.replicate 12 ⟨#[]⟩) := .new (t := 9) (by omega) _
    generalize h3 : c2 ++ [Cell.arr (T := TT) 9 (List.replicate 12 (⟨#[]⟩ : ByteArray))] = c3 at A3
    have l3 : c3.length = cs.length + 3 := by rw [← h3]; simp [l2]
    have A4 : Hd cs.length (c3 ++ [Cell.arr (T := TT) 3 (List.replicate 12 (0 : Int))]) (c3.length + 1) 3 (List.replicate 12 (0 : Int)) := .new (t := 3) (by omega) _
    generalize h4 : c3 ++ [Cell.arr (T := TT) 3 (List.replicate 12 (0 : Int))] = c4 at A4
    have l4 : c4.length = cs.length + 4 := by rw [← h4]; simp [l3]
    have A5 : Hd cs.length (c4 ++ [Cell.arr (T := TT) 114 (List.replicate 5 (⟨false, 0, 0⟩ : S114))]) (c4.length + 1) 114 (List.replicate 5 ⟨false, 0, 0⟩) := .new (t := 114) (by omega) _
    have B1 := (((A1.app [Cell.arr (T := TT) 3 (List.replicate 12 (0 : Int))]))); rw [h2] at B1
    have B1 := B1.app [Cell.arr (T := TT) 9 (List.replicate 12 (⟨#[]⟩ : ByteArray))]; rw [h3] at B1
    have B1 := B1.app [Cell.arr (T := TT) 3 (List.replicate 12 (0 : Int))]; rw [h4] at B1
    have B2 := A2.app [Cell.arr (T := TT) 9 (List.replicate 12 (⟨#[]⟩ : ByteArray))]; rw [h3] at B2
    have B2 := B2.app [Cell.arr (T := TT) 3 (List.replicate 12 (0 : Int))]; rw [h4] at B2
    have B3 := A3.app [Cell.arr (T := TT) 3 (List.replicate 12 (0 : Int))]; rw [h4] at B3
    refine ⟨B1.app _, B2.app _, B3.app _, A4.app _, A5, rfl, rfl, fun i hi => ?_, fun i hi => ?_, by simp only; omega, by simp only; omega, fun i j hi hj h => ?_, fun i j hi hj h => ?_⟩
    · have hi : i < 5 := hi
      rw [V0_p hi, V0_s]; exact .inl ⟨rfl, rfl⟩
    · have hi : i < 5 := hi
      rw [V0_p hi, V0_a]; exact .inl ⟨rfl, rfl⟩
    · have hi : i < 5 := hi
      rw [V0_p hi]; exact .inl rfl
    · have hi : i < 5 := hi
      rw [V0_p hi]; exact .inl rfl

/-- MemMake. -/
theorem ok67 (k : Nat) (hk : 3000 < k) (R : Rep n cs m V) (I : Inv m V) :
    Okk (f67 k (cs, m)) (fun r => Fr_ cs.length cs r.2 ∧ (r.1.2.2 = true → ∃ V', Rep cs.length r.2 r.1.1 V' ∧ Inv r.1.1 V' ∧ (New m V → (V'.p 0).f0 = true)) ∧ (New m V → r.1.2.2 = true)) := by
  obtain ⟨k', ek⟩ : ∃ q, k = q + 1 := ⟨k - 1, by omega⟩
  unfold f67 start67
  refine .bnd (ok65 k hk I.sz R) fun r hr => ?_
  obtain ⟨r1, r2⟩ := r
  obtain ⟨e, h1, h2⟩ := hr
  simp only at e h1 h2 ⊢
  have e := e.symm
  subst e
  refine .cnd (fun w => .ret ⟨.refl _ _, fun h => (by cases h), fun N => ?_⟩) fun w => ?_
  · rw [h2 N] at w; cases w
  refine .bnd (ok91' k (by omega) R I.np) fun r hr => ?_
  obtain ⟨t, r2⟩ := r
  obtain ⟨e, ht⟩ := hr
  simp only at e ht ⊢
  have e := e.symm
  subst e
  refine .cnd (fun w => .ret ⟨.refl _ _, fun h => (by cases h), fun N => ?_⟩) fun w => ?_
  · have w : t < 0 := by simpa using w
    rcases ht with ⟨_, h⟩ | ⟨q, _, h, _⟩
    · have := h 0 (by omega)
      rw [N.p 0 (by omega)] at this; cases this
    · omega
  have w : ¬ (t < 0) := by simpa using w
  rw [show ∀ p, run (step67 (f65 k) (f91 k) (f92 k)) k p = run (step67 (f65 k) (f91 k) (f92 k)) (k' + 1) p from fun p => by rw [← ek], run_succ]
  simp only [step67]
  refine .bnd (ok92' k (by omega) R I) fun r hr => ?_
  obtain ⟨m1, cs1⟩ := r
  obtain ⟨f1_, V1, R1, C1⟩ := hr
  simp only at f1_ R1 C1 ⊢
  have I1 := I.copy C1
  refine .bnd (ok91' k (by omega) (R.fr' f1_) I.np) fun r hr => ?_
  obtain ⟨t2, r2⟩ := r
  obtain ⟨e, ht2⟩ := hr
  simp only at e ht2 ⊢
  subst e
  obtain ⟨q, hq, rfl, hd, hb⟩ := ht2.resolve_left fun h => by
    obtain ⟨x, hx, _, hx2, _⟩ := ht.resolve_left (by omega)
    have := h.2 x hx
    rw [hx2] at this; cases this
  have hq1 : q < V1.ps.length := by rw [I1.np]; exact hq
  have e0 : decide ((0 : Int) ≤ (q : Int)) = true := decide_eq_true (by omega)
  have e1 : decide ((q : Int) < ((V1.ps.length : Nat) : Int)) = true := decide_eq_true (by omega)
  have fA : Fr_ r2.length r2 ((r2 ++ [Cell.arr (T := TT) 76 ([] : List S76)]) ++ [Cell.arr (T := TT) 116 (List.replicate 16 (⟨0, 0, false, false⟩ : S76))]) := by rw [List.append_assoc]; exact .app' _
  have R2 := R1.fr' fA
  simp only [R1.ps.okA, R1.ps.rdc, R2.ps.okA, R2.ps.rdc, e0, e1, cond_true, setc2, Int.toNat_natCast]
  have A1 : Hd r2.length (r2 ++ [Cell.arr (T := TT) 76 ([] : List S76)]) (r2.length + 1) 76 [] := .new (t := 76) (Nat.le_refl _) _
  have A2 : Hd r2.length ((r2 ++ [Cell.arr (T := TT) 76 ([] : List S76)]) ++ [Cell.arr (T := TT) 116 (List.replicate 16 (⟨0, 0, false, false⟩ : S76))]) ((r2 ++ [Cell.arr (T := TT) 76 ([] : List S76)]).length + 1) 116 (List.replicate 16 ⟨0, 0, false, false⟩) := .new (t := 116) (by simp) _
  have A1' := A1.app [Cell.arr (T := TT) 116 (List.replicate 16 (⟨0, 0, false, false⟩ : S76))]
  have hd1 : (V1.p q).f0 = false := by rw [C1.lv q (by rw [I.np]; exact hq)]; exact hd
  have I2 := I1.plus0 hq hd1
  have hl1 : q < V1.sl.length := by rw [I1.ls]; exact hq
  have ep : ∀ j : Nat, (⟨V1.rt, V1.rr, V1.st, V1.sr, V1.ps.set q ⟨true, r2.length + 1, (r2 ++ [Cell.arr (T := TT) 76 ([] : List S76)]).length + 1⟩, V1.sl.set q (List.replicate 16 ⟨0, 0, false, false⟩), V1.al.set q []⟩ : MV).p j = if j = q then ⟨true, r2.length + 1, (r2 ++ [Cell.arr (T := TT) 76 ([] : List S76)]).length + 1⟩ else V1.p j := fun j => MV.p_set hq1
  have ep2 : ∀ j : Nat, ((plus V1 q (List.replicate 16 ⟨0, 0, false, false⟩)).p j).f0 = if j = q then true else (V1.p j).f0 := fun j => by
    rw [plus_p hq1]; split <;> rfl
  refine .ret ⟨(f1_.trans (fA.mono f1_.le)).trans (R2.frPS _), fun _ => ⟨_, R2.setP hq1 ⟨true, r2.length + 1, (r2 ++ [Cell.arr (T := TT) 76 ([] : List S76)]).length + 1⟩ (A2.mono R1.lt).z (A1'.mono R1.lt).z (fun j hj hn e => ?_) (fun j hj hn e => ?_), ⟨I1.nt, I1.nr, I1.mt, I1.mr, by simp only [List.length_set]; exact I1.np, I2.ls, fun j hj h => I2.live j hj ?_, fun j hj h => I2.dead j hj ?_, fun j hj => ?_, I2.t1, I2.t2, I2.x1, I2.x2, I2.rng, I2.hd⟩, fun N => ?_⟩, fun _ => rfl⟩
  · rcases R1.sl j hj with ⟨zz, _⟩ | h
    · rw [e]; exact zz
    · have h1 := h.lt
      have h2 := A2.1
      simp only at e
      omega
  · rcases R1.al j hj with ⟨zz, _⟩ | h
    · rw [e]; exact zz
    · have h1 := h.lt
      simp only at e
      omega
  · rw [ep] at h
    rw [ep2]
    split
    · rfl
    · rename_i c; rw [if_neg c] at h; exact h
  · rw [ep] at h
    rw [ep2]
    split at h
    · cases h
    · rename_i c; rw [if_neg c]; exact h
  · show ((V1.al.set q []).getD j []).length ≤ 6
    by_cases c : q < V1.al.length
    · rw [getD_set c]
      split
      · simp
      · exact I1.al j hj
    · rw [List.set_eq_of_length_le (by omega)]; exact I1.al j hj
  · rw [ep]
    split
    · rfl
    · rename_i c
      have := hb 0 (by omega)
      rw [N.p 0 (by omega)] at this; cases this
end
end Go.Sx
