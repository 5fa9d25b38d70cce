/- The plain law FnFsRead, over what its functions compute: a part. No further condition. -/
import Derived.Test.YtpljcphiaajjaaaSzPFnFsReadk
import Derived.Test.YtpljcphiaajjaaaSzBFnFsRead
set_option linter.unusedVariables false
set_option linter.unusedSimpArgs false
namespace Go.Sx
open Go.RowKit Go.Lib
set_option linter.unusedVariables false
set_option linter.unusedSimpArgs false
theorem ok22 {k : Nat} (hk : 100000 < k) (x : List Int) (hx : ∀ z ∈ x, 0 ≤ z ∧ z ≤ 255) : Okk (f22 k x) (fun r => (∀ z ∈ r.1.f0, FitN z) ∧ (-1 ≤ r.2.2.1 ∧ r.2.2.1 ≤ 43) ∧ (-1 ≤ r.2.2.2 ∧ r.2.2.2 ≤ 19)) := by
  have hk2 : 2000 < k := by omega
  simp only [f22, start22]
  refine .bnd (ok30 k x hx) fun r hr => .bnd (ok47 hk hr) fun f ⟨h1, h2, h3⟩ => .bnd (ok48 hk2 h3 (by omega)) fun i ⟨i0, i1, hi⟩ => .bnd (okp hk2 hi (by omega) (by decide)) fun a ⟨a0, a1, ha⟩ => .bnd (okp hk2 ha (by omega) (by decide)) fun b ⟨b0, b1, hb⟩ => .ret ⟨h1, ?_, ?_⟩
  · show -1 ≤ w64 (a.1 - 1) ∧ w64 (a.1 - 1) ≤ 43
    rw [w64_id (by omega) (by omega)]; omega
  · show -1 ≤ w64 (b.1 - 1) ∧ w64 (b.1 - 1) ≤ 19
    rw [w64_id (by omega) (by omega)]; omega
def hasB (ns : List S34) (a : Int) : Bool := decide (0 ≤ a ∧ a ≤ 9) && !decide ((rd34 ns a).f0 = 0)
theorem has46 (ns : List S34) (hns : ns.length = 10) (a : Int) (k : Nat) : f46 k (⟨ns⟩, a) = some (hasB ns a) := by
  have e10 : (ns.length : Int) = 10 := by omega
  have w : w64 ((10 : Int) - 1) = 9 := w64_id (by omega) (by omega)
  show Option.bind (f33 k (a, 0, w64 ((ns.length : Int) - 1))) (fun r0 => cond r0 (cond (decide (0 ≤ a)) (cond (decide (a < (ns.length : Int))) (some ((rd34 ns a).f0 != 0)) none) none) (some false)) = _
  rw [e10, w, f33_eq, in_eq, Option.bind_some]
  unfold hasB
  by_cases c : 0 ≤ a ∧ a ≤ 9
  · have c1 : a < 10 := by omega
    rw [decide_eq_true c, cond_true, decide_eq_true c.1, cond_true, decide_eq_true c1]; rfl
  · rw [decide_eq_false c]; rfl
theorem has44 (ns : List S34) (hns : ns.length = 10) (a : Int) (k : Nat) : f44 k (⟨ns⟩, a) = some (hasB ns a) := by
  have : f44 k (⟨ns⟩, a) = f46 k (⟨ns⟩, a) := rfl
  rw [this, has46 ns hns]
/-- What is read of a text. -/
def rdT (z : ByteArray) (A B : Nat) : ByteArray := z.extract (min A z.size) (min A z.size + min B (z.size - min A z.size))
theorem minI (A S : Nat) : cond (decide ((S : Int) < (A : Int))) (S : Int) (A : Int) = ((min A S : Nat) : Int) := by
  by_cases h : (S : Int) < A
  · rw [decide_eq_true h, cond_true]; omega
  · rw [decide_eq_false h, cond_false]; omega
theorem f20_ok {ns : List S34} (hns : ns.length = 10) {k : Nat} (hk : 0 < k) (hb : f14 k ⟨ns⟩ = some true) {a : Int} (hh : hasB ns a = true) (hk1 : (rd34 ns a).f0 = 1) (h40 : (rd34 ns a).f7.size ≤ 40) (A B : Nat) (hA : A ≤ 1000000) (hB : B ≤ 1000000) : f20 k (⟨ns⟩, a, (A : Int), (B : Int)) = some (rdT (rd34 ns a).f7 A B, 0) := by
  have h46 := has46 ns hns a k
  obtain ⟨m, rfl⟩ : ∃ m, k = m + 1 := ⟨k - 1, by omega⟩
  obtain ⟨c1, _⟩ := Bool.and_eq_true_iff.1 hh
  have c1 := of_decide_eq_true c1
  have p0 : 0 ≤ a := c1.1
  have p1 : a < (ns.length : Int) := by omega
  have q1 : ¬ (A : Int) < 0 := by omega
  have q2 : ¬ (B : Int) < 0 := by omega
  simp only [f20, start20, hb, h46, hh, Option.bind_some, Bool.not_true, cond_false, q1, q2, decide_false]
  rw [run_succ]
  simp only [step20, p0, p1, decide_true, cond_true, hk1, bne_self_eq_false, cond_false]
  generalize (rd34 ns a).f7 = z at h40
  unfold rdT
  have e1 : w64 (((z.size : Nat) : Int) - ((min A z.size : Nat) : Int)) = ((z.size - min A z.size : Nat) : Int) := by rw [w64_id (by omega) (by omega)]; omega
  have e2 : w64 (((min A z.size : Nat) : Int) + ((min B (z.size - min A z.size) : Nat) : Int)) = ((min A z.size + min B (z.size - min A z.size) : Nat) : Int) := by rw [w64_id (by omega) (by omega)]; omega
  simp only [minI, e1, e2]
  have t0 : (0 : Int) ≤ ((min A z.size + min B (z.size - min A z.size) : Nat) : Int) := by omega
  have t1 : ((min A z.size + min B (z.size - min A z.size) : Nat) : Int) ≤ ((z.size : Nat) : Int) := by omega
  have t2 : (0 : Int) ≤ ((min A z.size : Nat) : Int) := by omega
  have t3 : ((min A z.size : Nat) : Int) ≤ (((((min A z.size + min B (z.size - min A z.size) : Nat) : Int).toNat) : Nat) : Int) := by omega
  rw [decide_eq_true t0, cond_true, decide_eq_true t1, cond_true, decide_eq_true t2, cond_true, decide_eq_true t3, cond_true]
  rfl
theorem f19_ok {ns : List S34} (hns : ns.length = 10) {k : Nat} (hb : f16 k ⟨ns⟩ = some true) {a : Int} (hh : hasB ns a = true) (hk1 : (rd34 ns a).f0 = 1) (h40 : (rd34 ns a).f7.size ≤ 40) (A B : Nat) (hA : A ≤ 1000000) (hB : B ≤ 1000000) : ∃ t, f19 k (⟨ns⟩, a, (A : Int), (B : Int)) = some (t, 0) ∧ t.toList = (rdT (rd34 ns a).f7 A B).toList := by
  have h44 := has44 ns hns a k
  obtain ⟨c1, _⟩ := Bool.and_eq_true_iff.1 hh
  have c1 := of_decide_eq_true c1
  have p0 : 0 ≤ a := c1.1
  have p1 : a < (ns.length : Int) := by omega
  have q1 : ¬ (A : Int) < 0 := by omega
  have q2 : ¬ (B : Int) < 0 := by omega
  simp only [f19, start19, hb, h44, hh, Option.bind_some, Bool.not_true, cond_false, q1, q2, decide_false, p0, p1, decide_true, cond_true, hk1, bne_self_eq_false, f45, start45]
  generalize (rd34 ns a).f7 = z at h40
  unfold rdT
  by_cases cn : (A : Int) ≥ ((z.size : Nat) : Int)
  · rw [decide_eq_true cn, cond_true, Option.bind_some]
    refine ⟨_, rfl, ?_⟩
    rw [toList_nil.2 rfl, eq_comm, toList_nil, ByteArray.size_extract]
    omega
  · rw [decide_eq_false cn, cond_false]
    have e0 : cond (decide ((40 : Int) < (B : Int))) (40 : Int) (B : Int) = ((min B 40 : Nat) : Int) := minI B 40
    have e1 : w64 ((A : Int) + ((min B 40 : Nat) : Int)) = ((A + min B 40 : Nat) : Int) := by rw [w64_id (by omega) (by omega)]; omega
    simp only [e0, e1, minI]
    have t0 : (0 : Int) ≤ ((min z.size (A + min B 40) : Nat) : Int) := by omega
    have t1 : ((min z.size (A + min B 40) : Nat) : Int) ≤ ((z.size : Nat) : Int) := by omega
    have t2 : (0 : Int) ≤ (A : Int) := by omega
    have t3 : (A : Int) ≤ (((((min z.size (A + min B 40) : Nat) : Int).toNat) : Nat) : Int) := by omega
    rw [decide_eq_true t0, cond_true, decide_eq_true t1, cond_true, decide_eq_true t2, cond_true, decide_eq_true t3, cond_true, Option.bind_some]
    refine ⟨_, rfl, ?_⟩
    rw [Int.toNat_natCast, Int.toNat_natCast, show min A z.size = A by omega, show min z.size (A + min B 40) = A + min B (z.size - A) by omega]
theorem read_all (ns : List S34) (hf : ∀ z ∈ ns, FitN z) (a x y : Int) (hx : -1 ≤ x) (hy : -1 ≤ y) {k : Nat} (hk : 80000000 ≤ k) :
    (∃ c : Int, c ≠ 0 ∧ f20 k (⟨ns⟩, a, x, y) = some (⟨#[]⟩, c) ∧ f19 k (⟨ns⟩, a, x, y) = some (⟨#[]⟩, c)) ∨
    (ns.length = 10 ∧ f14 k ⟨ns⟩ = some true ∧ f16 k ⟨ns⟩ = some true ∧ hasB ns a = true ∧ (rd34 ns a).f0 = 1 ∧ (rd34 ns a).f7.size ≤ 40 ∧ 0 ≤ x ∧ 0 ≤ y) := by
  have hfn : ∀ i, i < 10 → FitN (nd ns i) := fun i _ => fit_nd hf i
  obtain ⟨b, hb, hb'⟩ := fs_all ns hfn hk
  obtain ⟨m, hm⟩ : ∃ m, k = m + 1 := ⟨k - 1, by omega⟩
  cases b with
  | false => exact .inl ⟨1, by decide, by simp only [f20, start20, hb, Option.bind_some, Bool.not_false, cond_true], by simp only [f19, start19, hb', Option.bind_some, Bool.not_false, cond_true]⟩
  | true =>
    obtain ⟨hns, hok, _⟩ := fs_true hfn hk hb'
    have h46 := has46 ns hns a k
    have h44 := has44 ns hns a k
    cases hh : hasB ns a with
    | false =>
      rw [hh] at h46 h44
      exact .inl ⟨1, by decide, by simp only [f20, start20, hb, h46, Option.bind_some, Bool.not_true, Bool.not_false, cond_true, cond_false], by simp only [f19, start19, hb', h44, Option.bind_some, Bool.not_true, Bool.not_false, cond_true, cond_false]⟩
    | true =>
      rw [hh] at h46 h44
      obtain ⟨c1, _⟩ := Bool.and_eq_true_iff.1 hh
      have c1 := of_decide_eq_true c1
      have p0 : 0 ≤ a := c1.1
      have p1 : a < (ns.length : Int) := by omega
      by_cases ca : x < 0
      · exact .inl ⟨1, by decide, by simp only [f20, start20, hb, h46, ca, decide_true, Option.bind_some, Bool.not_true, cond_true, cond_false], by simp only [f19, start19, hb', h44, ca, decide_true, Option.bind_some, Bool.not_true, cond_true, cond_false]⟩
      · by_cases cb : y < 0
        · exact .inl ⟨1, by decide, by simp only [f20, start20, hb, h46, ca, cb, decide_true, decide_false, Option.bind_some, Bool.not_true, cond_true, cond_false], by simp only [f19, start19, hb', h44, ca, cb, decide_true, decide_false, Option.bind_some, Bool.not_true, cond_true, cond_false]⟩
        · by_cases ck : (rd34 ns a).f0 = 1
          · refine .inr ⟨hns, hb, hb', rfl, ck, ?_, by omega, by omega⟩
            rw [rd_nd p0] at ck ⊢
            rcases nodeS_iff.1 (hok a.toNat (by omega)) with ⟨h, _⟩ | ⟨_, _, _, hB, _⟩
            · omega
            · unfold nodeB at hB
              rw [if_pos ck] at hB
              simp only [Bool.and_eq_true, decide_eq_true_eq] at hB
              exact hB.1
          · have ck2 : ((rd34 ns a).f0 != 1) = true := by rw [bne_iff_ne]; exact ck
            refine .inl ⟨4, by decide, ?_, ?_⟩
            · simp only [f20, start20, hb, h46, ca, cb, decide_true, decide_false, Option.bind_some, Bool.not_true, cond_true, cond_false]
              rw [hm, run_succ]
              simp only [step20, p0, p1, ck2, decide_true, cond_true]
            · simp only [f19, start19, hb', h44, ca, cb, p0, p1, ck2, decide_true, decide_false, Option.bind_some, Bool.not_true, cond_true, cond_false]
theorem rdT_size (z : ByteArray) (A B : Nat) : (rdT z A B).size = min B (z.size - min A z.size) := by
  unfold rdT
  rw [ByteArray.size_extract]; omega
theorem rdT_more (z : ByteArray) (A B : Nat) : rdT z A B ++ rdT z (A + (rdT z A B).size) 5 = rdT z A ((rdT z A B).size + 5) := by
  rw [rdT_size]
  have hs : ∀ a b c : Nat, a ≤ b → b ≤ c → z.extract a b ++ z.extract b c = z.extract a c := by
    intro a b c h1 h2
    rw [ByteArray.extract_append_extract]
    congr 1 <;> omega
  unfold rdT
  by_cases h : A ≤ z.size
  · rw [show min (A + min B (z.size - min A z.size)) z.size = min A z.size + min B (z.size - min A z.size) by omega, hs _ _ _ (by omega) (by omega)]
    congr 1; omega
  · rw [show min (A + min B (z.size - min A z.size)) z.size = z.size by omega, show min A z.size = z.size by omega, show min B (z.size - z.size) = 0 by omega, show min 5 (z.size - z.size) = 0 by omega, Nat.add_zero, hs _ _ _ (by omega) (by omega)]
/-- The plain law. -/
theorem law_FnFsRead (x0 : List Int) (h0 : x0.length * 1 ≤ 140737488351232 ∧ ∀ z ∈ x0, B5 z) : ∃ k, f7 k x0 = some true := by
  obtain ⟨k, hk⟩ : ∃ k : Nat, 80000000 ≤ k := ⟨_, Nat.le_refl _⟩
  refine ⟨k, ?_⟩
  show start7 (f19 k) (f20 k) (f22 k) (run (step7 (f19 k) (f20 k) (f22 k)) k) x0 = some true
  have hx : ∀ z ∈ x0, 0 ≤ z ∧ z ≤ 255 := fun z hz => by
    have := h0.2 z hz
    unfold B5 at this
    simp [Lit.wf, IntKind.min, IntKind.max, IntKind.signed, IntKind.bits] at this
    omega
  by_cases c : ((x0.length : Nat) : Int) > 1048576
  · simp only [start7, c, decide_true, cond_true]
  · obtain ⟨⟨⟨ns⟩, a, x, y⟩, e, hf, ⟨x1, x2⟩, y1, y2⟩ := ok22 (k := k) (by omega) x0 hx
    simp only at hf x1 x2 y1 y2
    simp only [start7, c, decide_false, cond_false, e, Option.bind_some]
    obtain ⟨m, hm⟩ : ∃ m, k = m + 1 + 1 := ⟨k - 2, by omega⟩
    rcases read_all ns hf a x y x1 y1 hk with ⟨c, c0, g1, g2⟩ | ⟨hns, hb, hb', hh, hk1, h40, p0, q0⟩
    · simp only [g1, g2, Option.bind_some, beq_self_eq_true, cond_true]
      rw [hm, run_succ]
      have : (c == 0) = false := by rw [beq_eq_false_iff_ne]; exact c0
      simp only [step7, this, Bool.not_true, Bool.not_false, cond_true, cond_false]
    · obtain ⟨A, rfl⟩ : ∃ A : Nat, x = A := ⟨x.toNat, by omega⟩
      obtain ⟨B, rfl⟩ : ∃ B : Nat, y = B := ⟨y.toNat, by omega⟩
      have g1 := f20_ok hns (by omega : 0 < k) hb hh hk1 h40 A B (by omega) (by omega)
      obtain ⟨t, g2, g3⟩ := f19_ok hns hb' hh hk1 h40 A B (by omega) (by omega)
      have sz := rdT_size (rd34 ns a).f7 A B
      have g4 : f20 k (⟨ns⟩, a, ((A + (rdT (rd34 ns a).f7 A B).size : Nat) : Int), 5) = some (rdT (rd34 ns a).f7 (A + (rdT (rd34 ns a).f7 A B).size) 5, 0) := f20_ok hns (by omega : 0 < k) hb hh hk1 h40 (A + (rdT (rd34 ns a).f7 A B).size) 5 (by omega) (by omega)
      have g5 := f20_ok hns (by omega : 0 < k) hb hh hk1 h40 A ((rdT (rd34 ns a).f7 A B).size + 5) (by omega) (by omega)
      have w1 : w64 ((A : Int) + (((rdT (rd34 ns a).f7 A B).size : Nat) : Int)) = ((A + (rdT (rd34 ns a).f7 A B).size : Nat) : Int) := by rw [w64_id (by omega) (by omega)]; omega
      have w2 : w64 ((((rdT (rd34 ns a).f7 A B).size : Nat) : Int) + 5) = (((rdT (rd34 ns a).f7 A B).size + 5 : Nat) : Int) := by rw [w64_id (by omega) (by omega)]; omega
      have mr := rdT_more (rd34 ns a).f7 A B
      have g3' : ((rdT (rd34 ns a).f7 A B).toList == t.toList) = true := by rw [beq_iff_eq, g3]
      simp only [g1, g2, Option.bind_some, g3', beq_self_eq_true, cond_true]
      have h5 := rdT_size (rd34 ns a).f7 (A + (rdT (rd34 ns a).f7 A B).size) 5
      rw [show run (step7 (f19 k) (f20 k) (f22 k)) k = run (step7 (f19 k) (f20 k) (f22 k)) (m + 1 + 1) from by rw [← hm], run_succ]
      simp only [step7, beq_self_eq_true, Bool.not_true, cond_false]
      rw [run_succ]
      simp only [step7, w1, w2]
      rw [g4, show f20 k (⟨ns⟩, a, (A : Int), ((((rdT (rd34 ns a).f7 A B).size + 5 : Nat)) : Int)) = _ from g5]
      simp only [Option.bind_some, beq_self_eq_true, cond_true]
      have d1 : ((rdT (rd34 ns a).f7 A B).size : Int) ≤ (B : Int) := by omega
      have d2 : (rdT (rd34 ns a).f7 A B).size + (rdT (rd34 ns a).f7 (A + (rdT (rd34 ns a).f7 A B).size) 5).size ≤ 9223372036854775807 := by omega
      have d3 : ((rdT (rd34 ns a).f7 A B ++ rdT (rd34 ns a).f7 (A + (rdT (rd34 ns a).f7 A B).size) 5).toList == (rdT (rd34 ns a).f7 A ((rdT (rd34 ns a).f7 A B).size + 5)).toList) = true := by rw [mr, beq_iff_eq]
      simp only [d1, d2, d3, decide_true, cond_true]
      cases decide (((rdT (rd34 ns a).f7 A B).size : Int) < (B : Int)) <;> simp only [cond_true, cond_false]
      cases (((rdT (rd34 ns a).f7 A ((rdT (rd34 ns a).f7 A B).size + 5)).size : Int) == ((rdT (rd34 ns a).f7 A B).size : Int)) <;> rfl
end Go.Sx
