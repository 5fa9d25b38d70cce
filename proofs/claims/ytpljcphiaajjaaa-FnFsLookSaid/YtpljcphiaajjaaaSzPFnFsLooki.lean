/- The plain law FnFsLook, over what its functions compute: a part. No further condition. -/
import Derived.Test.YtpljcphiaajjaaaSzPFnFsLookh
set_option linter.unusedVariables false
set_option linter.unusedSimpArgs false
namespace Go.Sx
open Go.RowKit Go.Lib
set_option linter.unusedVariables false
set_option linter.unusedSimpArgs false
theorem xor_pos {a b : Int} (ha : 0 ≤ a) (hb : 0 ≤ b) (ha2 : a < 4611686018427387904) (hb2 : b < 4611686018427387904) : 0 ≤ xor_ .i64 a b ∧ xor_ .i64 a b < 4611686018427387904 := by
  obtain ⟨m, rfl⟩ : ∃ m : Nat, a = m := ⟨a.toNat, by omega⟩
  obtain ⟨n, rfl⟩ : ∃ n : Nat, b = n := ⟨b.toNat, by omega⟩
  have e : xor_ .i64 (m : Int) (n : Int) = w64 ((m ^^^ n : Nat) : Int) := by
    unfold xor_ w64
    congr 1
    rw [show IntKind.bits .i64 = 64 from rfl]
    rw [BitVec.toNat_xor, BitVec.ofInt_natCast, BitVec.ofInt_natCast, BitVec.toNat_ofNat, BitVec.toNat_ofNat, Nat.mod_eq_of_lt (by omega), Nat.mod_eq_of_lt (by omega)]
  have h : m ^^^ n < 2 ^ 62 := Nat.xor_lt_two_pow (by omega) (by omega)
  rw [e, w64_id (by omega) (by omega)]
  omega
theorem tmod_pos {a n : Int} (ha : 0 ≤ a) (hn : 0 < n) : 0 ≤ Int.tmod a n ∧ Int.tmod a n < n := ⟨Int.tmod_nonneg n ha, Int.tmod_lt_of_pos a hn⟩
theorem tdiv_pos {a n : Int} (ha : 0 ≤ a) (hn : 0 < n) : 0 ≤ Int.tdiv a n ∧ Int.tdiv a n ≤ a := by
  rw [Int.tdiv_eq_ediv_of_nonneg ha]
  exact ⟨Int.ediv_nonneg ha (by omega), Int.ediv_le_self n ha⟩
def isB (b : List Int) : Prop := b.length ≤ 2000 ∧ ∀ x ∈ b, 0 ≤ x ∧ x ≤ 255
theorem isB.at_ {b : List Int} (h : isB b) {i : Int} (h0 : 0 ≤ i) (h1 : i < b.length) : 0 ≤ rd5 b i ∧ rd5 b i ≤ 255 := by
  obtain ⟨j, rfl⟩ : ∃ j : Nat, i = j := ⟨i.toNat, by omega⟩
  have hj : j < b.length := by omega
  rw [rd5_at hj]
  exact h.2 _ (List.getElem_mem hj)
theorem pick_spec (k : Nat) {b : List Int} (hb : isB b) (p n : Int) (hp : 0 ≤ p) (hp2 : p ≤ 1000000000000) : ∃ v, f31 (k + 1) (⟨b, p⟩, n) = some (v, ⟨b, p + 1⟩) ∧ 0 ≤ v ∧ (v < n ∨ v = 0) := by
  have e1 : w64 (p + 1) = p + 1 := w64_id (by omega) (by omega)
  simp only [f31, start31, e1]
  by_cases c0 : n < 1
  · exact ⟨0, by simp only [c0, decide_true, cond_true], Int.le_refl _, .inr rfl⟩
  simp only [c0, decide_false, cond_false]
  by_cases c1 : b.length = 0
  · exact ⟨0, by simp [c1], Int.le_refl _, .inr rfl⟩
  have c1' : (((b.length : Nat) : Int) == 0) = false := by rw [beq_eq_false_iff_ne]; omega
  rw [c1', cond_false, run_succ]
  have e2 : w64 (p + 1 - 1) = p := by rw [w64_id (by omega) (by omega)]; omega
  simp only [step31, e2]
  have hn : ¬ n = 0 := by omega
  have hl : (0 : Int) < ((b.length : Nat) : Int) := by omega
  have hl0 : ¬ (((b.length : Nat) : Int) = 0) := by omega
  have hlen : ((b.length : Nat) : Int) ≤ 2000 := by have := hb.1; omega
  by_cases c2 : p < ((b.length : Nat) : Int)
  · obtain ⟨r0, r1⟩ := hb.at_ hp c2
    have r2 : w64 (rd5 b p) = rd5 b p := w64_id (by omega) (by omega)
    obtain ⟨t0, t1⟩ := tmod_pos (a := rd5 b p) (n := n) r0 (by omega)
    exact ⟨Int.tmod (rd5 b p) n, by simp only [c2, hp, hn, decide_true, decide_false, cond_true, Bool.not_false, r2], t0, .inl t1⟩
  · obtain ⟨m0, m1⟩ := tmod_pos (a := p) hp hl
    have e7 : w64 (p * 7) = p * 7 := w64_id (by omega) (by omega)
    have e73 : w64 (p * 7 + 3) = p * 7 + 3 := w64_id (by omega) (by omega)
    obtain ⟨m2, m3⟩ := tmod_pos (a := p * 7 + 3) (by omega) hl
    obtain ⟨r0, r1⟩ := hb.at_ m0 m1
    obtain ⟨s0, s1⟩ := hb.at_ m2 m3
    obtain ⟨q0, q1⟩ := tdiv_pos (a := p) hp hl
    simp only [c2, decide_false, cond_false, e7, e73, hl0, m0, m1, m2, m3, hn, decide_true, Bool.not_false, cond_true]
    generalize rd5 b (Int.tmod p ((b.length : Nat) : Int)) = u at r0 r1
    generalize rd5 b (Int.tmod (p * 7 + 3) ((b.length : Nat) : Int)) = v at s0 s1
    generalize Int.tdiv p ((b.length : Nat) : Int) = q at q0 q1
    have z1 : w64 u = u := w64_id (by omega) (by omega)
    have z2 : w64 (u * 131) = u * 131 := w64_id (by omega) (by omega)
    have z3 : w64 v = v := w64_id (by omega) (by omega)
    have z4 : w64 (v * 1117) = v * 1117 := w64_id (by omega) (by omega)
    have z5 : w64 (u * 131 + v * 1117) = u * 131 + v * 1117 := w64_id (by omega) (by omega)
    have z6 : w64 (p * 29) = p * 29 := w64_id (by omega) (by omega)
    have z7 : w64 (u * 131 + v * 1117 + p * 29) = u * 131 + v * 1117 + p * 29 := w64_id (by omega) (by omega)
    have z8 : w64 q = q := w64_id (by omega) (by omega)
    have z9 : w64 (q * 53) = q * 53 := w64_id (by omega) (by omega)
    have z10 : w64 (u * 131 + v * 1117 + p * 29 + q * 53) = u * 131 + v * 1117 + p * 29 + q * 53 := w64_id (by omega) (by omega)
    simp only [z1, z2, z3, z4, z5, z6, z7, z8, z9, z10]
    have y0 : 0 ≤ u * 131 + v * 1117 + p * 29 + q * 53 := by omega
    have y1 : u * 131 + v * 1117 + p * 29 + q * 53 < 4611686018427387904 := by omega
    generalize u * 131 + v * 1117 + p * 29 + q * 53 = x at y0 y1
    obtain ⟨d0, d1⟩ := tdiv_pos (a := x) (n := 64) y0 (by decide)
    rw [w64_id (n := Int.tdiv x 64) (by omega) (by omega)]
    obtain ⟨x0, _⟩ := xor_pos y0 d0 y1 (by omega)
    obtain ⟨t0, t1⟩ := tmod_pos (n := n) x0 (by omega)
    exact ⟨_, rfl, t0, .inl t1⟩
/-- A draw below a number. -/
theorem pick_lt' (k : Nat) {b : List Int} (hb : isB b) (p n : Int) (hp : 0 ≤ p) (hp2 : p ≤ 1000000000000) (hn : 0 < n) : ∃ v, f31 (k + 1) (⟨b, p⟩, n) = some (v, ⟨b, p + 1⟩) ∧ 0 ≤ v ∧ v < n := by
  obtain ⟨v, h1, h2, h3⟩ := pick_spec k hb p n hp hp2
  exact ⟨v, h1, h2, by omega⟩
theorem rd9_sz {l : List ByteArray} {m : Nat} (h : ∀ x ∈ l, x.size ≤ m) {i : Int} (h0 : 0 ≤ i) (h1 : i < l.length) : (rd9 l i).size ≤ m := by
  obtain ⟨j, rfl⟩ : ∃ j : Nat, i = j := ⟨i.toNat, by omega⟩
  have hj : j < l.length := by omega
  rw [rd9_at hj]
  exact h _ (List.getElem_mem hj)
theorem name_draw (k : Nat) {b : List Int} (hb : isB b) (p : Int) (hp : 0 ≤ p) (hp2 : p ≤ 1000000000) : ∃ s, f59 (k + 1) (⟨b, p⟩, ()) = some (s, ⟨b, p + 1 + 1⟩) ∧ s.size ≤ 4 := by
  obtain ⟨v, h1, h2, h3⟩ := pick_lt' k hb p 24 hp (by omega) (by decide)
  simp only [f59, start59, h1, Option.bind_some]
  cases (v == 0)
  · obtain ⟨u, g1, g2, g3⟩ := pick_lt' k hb (p + 1) 4 (by omega) (by omega) (by decide)
    simp only [cond_false, g1, Option.bind_some, g2, g3, decide_true, cond_true]
    exact ⟨_, rfl, rd9_sz (by decide) g2 (by simpa using g3)⟩
  · obtain ⟨u, g1, g2, g3⟩ := pick_lt' k hb (p + 1) 5 (by omega) (by omega) (by decide)
    simp only [cond_true, g1, Option.bind_some, g2, g3, decide_true]
    exact ⟨_, rfl, rd9_sz (by decide) g2 (by simpa using g3)⟩
end Go.Sx
