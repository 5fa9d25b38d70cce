/- The plain law FnFsRead, over what its functions compute: a part. No further condition. -/
import Derived.Test.YtpljcphiaajjaaaSzPFnFsReadh
set_option linter.unusedVariables false
set_option linter.unusedSimpArgs false
namespace Go.Sx
open Go.RowKit Go.Lib
set_option linter.unusedVariables false
set_option linter.unusedSimpArgs false

structure Rb (P : Int) (r : S94) : Prop where
  b : isB r.f0
  lo : 0 ≤ r.f1
  hi : r.f1 ≤ P
theorem Rb.mono {P Q : Int} {r : S94} (h : Rb P r) (g : P ≤ Q) : Rb Q r := ⟨h.b, h.lo, by have := h.hi; omega⟩
theorem okp {k : Nat} (hk : 2000 < k) {P : Int} {r : S94} (h : Rb P r) (hP : P ≤ 100000000000) {n : Int} (hn : 0 < n) : Okk (f31 k (r, n)) (fun q => 0 ≤ q.1 ∧ q.1 < n ∧ Rb (P + 1) q.2) := by
  obtain ⟨m, rfl⟩ : ∃ m, k = m + 1 := ⟨k - 1, by omega⟩
  obtain ⟨b, p⟩ := r
  have h1 := h.lo
  have h2 := h.hi
  simp only at h1 h2
  obtain ⟨v, e, v0, v1⟩ := pick_lt' m h.b p n h1 (by omega) hn
  exact ⟨_, e, v0, v1, h.b, by show 0 ≤ p + 1; omega, by show p + 1 ≤ P + 1; omega⟩
theorem ok87_loop {k : Nat} (hk : 2000 < k) : ∀ (d m : Nat) (P : Int) (b : List Int) (p : Int) (out : List Int), d < m → Rb P ⟨b, p⟩ → P + d ≤ 100000000000 → out.length + d ≤ 40 → Okk (run (step87 (f31 k)) m (J87.j3 (d : Int) b p out)) (fun r => r.1.size ≤ 40 ∧ Rb (P + d) r.2)
  | d, 0, P, b, p, out, h, _, _, _ => by omega
  | 0, m + 1, P, b, p, out, _, hr, hP, ho => by
    rw [run_succ]; simp only [step87]
    rw [decide_eq_false (by omega : ¬ (((0 : Nat) : Int) > 0)), cond_false]
    refine .ret ⟨?_, hr.mono (by omega)⟩
    show (Go.strOfNums _).size ≤ 40
    rw [nums_size]; simp; omega
  | d + 1, m + 1, P, b, p, out, h, hr, hP, ho => by
    rw [run_succ]; simp only [step87]
    rw [decide_eq_true (by omega : (((d + 1 : Nat) : Int) > 0)), cond_true]
    refine .bnd (okp hk hr (by omega) (by decide)) fun q ⟨q0, q1, hq⟩ => ?_
    (repeat (refine Okk.chk (by omega) ?_))
    refine .chk (by simp; omega) ?_
    rw [show w64 (((d + 1 : Nat) : Int) - 1) = (d : Int) from by rw [w64_id (by omega) (by omega)]; omega]
    exact (ok87_loop hk d m (P + 1) q.2.f0 q.2.f1 _ (by omega) hq (by omega) (by simp; omega)).mono fun r ⟨h1, h2⟩ => ⟨h1, h2.mono (by omega)⟩
theorem ok87 {k : Nat} (hk : 2000 < k) {P : Int} {r : S94} (h : Rb P r) (hP : P ≤ 10000000000) {n : Int} (n0 : 0 ≤ n) (n1 : n ≤ 30) : Okk (f87 k (r, n)) (fun q => q.1.size ≤ 40 ∧ Rb (P + 40) q.2) := by
  simp only [f87, start87]
  rw [w64_id (n := n + 1) (by omega) (by omega)]
  refine .bnd (okp hk h (by omega) (by omega)) fun q ⟨q0, q1, hq⟩ => ?_
  obtain ⟨d, hd⟩ : ∃ d : Nat, q.1 = d := ⟨q.1.toNat, by omega⟩
  rw [hd]
  exact (ok87_loop hk d k (P + 1) q.2.f0 q.2.f1 [] (by omega) hq (by omega) (by simp; omega)).mono fun r ⟨h1, h2⟩ => ⟨h1, h2.mono (by omega)⟩
theorem ok58_end {k : Nat} (hk : 2000 < k) {m : Nat} (hm : 0 < m) {P : Int} {b : List Int} {p : Int} (hr : Rb P ⟨b, p⟩) (hP : P ≤ 10000000000) (a c u v : Int) (gs : List Int) (hg : gs.length ≤ 10) : Okk (run (step58 (f31 k)) m (J58.j7 b p a c u v gs)) (fun r => r.1.f2.length ≤ 11 ∧ Rb (P + 2) r.2) := by
  obtain ⟨m, rfl⟩ : ∃ n, m = n + 1 := ⟨m - 1, by omega⟩
  rw [run_succ]; simp only [step58]
  refine .bnd (okp hk hr (by omega) (by decide)) fun q ⟨q0, q1, hq⟩ => .cnd (fun _ => ?_) fun _ => .cnd (fun _ => ?_) fun _ => ?_
  · refine .bnd (okp hk hq (by omega) (by decide)) fun s ⟨s0, s1, hs⟩ => ?_
    (repeat (refine Okk.chk (by omega) ?_))
    exact .ret ⟨by show gs.length ≤ 11; omega, hs.mono (by omega)⟩
  · refine .bnd (okp hk hq (by omega) (by decide)) fun s ⟨s0, s1, hs⟩ => ?_
    (repeat (refine Okk.chk (by omega) ?_))
    refine .chk (by simp; omega) ?_
    exact .ret ⟨by show (gs ++ [_]).length ≤ 11; simp; omega, hs.mono (by omega)⟩
  · exact .ret ⟨by show gs.length ≤ 11; omega, hq.mono (by omega)⟩
theorem ok58_loop {k : Nat} (hk : 2000 < k) (a c u v : Int) : ∀ (d i m : Nat) (P : Int) (b : List Int) (p : Int) (gs : List Int), i + d = 5 → 3 * d + 2 ≤ m → Rb P ⟨b, p⟩ → P + d ≤ 10000000000 → gs.length ≤ i → Okk (run (step58 (f31 k)) m (J58.j3 (i : Int) b p a c u v gs)) (fun r => r.1.f2.length ≤ 11 ∧ Rb (P + d + 2) r.2)
  | 0, i, m + 1, P, b, p, gs, h, hm, hr, hP, hg => by
    rw [run_succ]; simp only [step58]
    rw [decide_eq_false (by omega : ¬ ((i : Int) < 5)), cond_false]
    exact (ok58_end hk (by omega) hr (by omega) a c u v gs (by omega)).mono fun r ⟨h1, h2⟩ => ⟨h1, h2.mono (by omega)⟩
  | 0, i, 0, P, b, p, gs, h, hm, hr, hP, hg => by omega
  | d + 1, i, 0, P, b, p, gs, h, hm, hr, hP, hg => by omega
  | d + 1, i, 1, P, b, p, gs, h, hm, hr, hP, hg => by omega
  | d + 1, i, 2, P, b, p, gs, h, hm, hr, hP, hg => by omega
  | d + 1, i, m + 3, P, b, p, gs, h, hm, hr, hP, hg => by
    rw [run_succ]; simp only [step58]
    rw [decide_eq_true (by omega : ((i : Int) < 5)), cond_true]
    refine .cnd (fun _ => ?_) (fun _ => (ok58_end hk (by omega) hr (by omega) a c u v gs (by omega)).mono fun r ⟨h1, h2⟩ => ⟨h1, h2.mono (by omega)⟩)
    rw [run_succ]; simp only [step58]
    have nxt : ∀ (b : List Int) (p : Int) (gs : List Int), Rb (P + 1) ⟨b, p⟩ → gs.length ≤ i + 1 → Okk (run (step58 (f31 k)) (m + 1) (J58.j4 (i : Int) b p a c u v gs)) (fun r => r.1.f2.length ≤ 11 ∧ Rb (P + ((d + 1 : Nat) : Int) + 2) r.2) := by
      intro b p gs hr hg
      rw [run_succ]; simp only [step58]
      rw [wsucc (n := 5) (by omega) (by omega)]
      exact (ok58_loop hk a c u v d (i + 1) m (P + 1) b p gs (by omega) (by omega) hr (by omega) hg).mono fun r ⟨h1, h2⟩ => ⟨h1, h2.mono (by omega)⟩
    refine .bnd (okp hk hr (by omega) (by decide)) fun q ⟨q0, q1, hq⟩ => .cnd (fun _ => ?_) fun _ => nxt _ _ _ hq (by omega)
    refine .chk (by simp; omega) ?_
    exact nxt _ _ _ hq (by simp; omega)
theorem ok58 {k : Nat} (hk : 2000 < k) {P : Int} {r : S94} (h : Rb P r) (hP : P ≤ 1000000000) : Okk (f58 k (r, ())) (fun q => q.1.f2.length ≤ 11 ∧ Rb (P + 9) q.2) := by
  simp only [f58, start58]
  refine .bnd (okp hk h (by omega) (by decide)) fun q ⟨q0, q1, hq⟩ => .bnd (okp hk hq (by omega) (by decide)) fun s ⟨s0, s1, hs⟩ => ?_
  exact (ok58_loop hk 0 0 q.1 s.1 5 0 k (P + 1 + 1) s.2.f0 s.2.f1 [] rfl (by omega) hs (by omega) (Nat.le_refl _)).mono fun r ⟨h1, h2⟩ => ⟨h1, h2.mono (by omega)⟩
theorem ok59 {k : Nat} (hk : 2000 < k) {P : Int} {r : S94} (h : Rb P r) (hP : P ≤ 1000000000) : Okk (f59 k (r, ())) (fun q => q.1.size ≤ 4 ∧ Rb (P + 2) q.2) := by
  simp only [f59, start59]
  refine .bnd (okp hk h (by omega) (by decide)) fun q ⟨q0, q1, hq⟩ => .cnd (fun _ => ?_) fun _ => ?_
  · refine .bnd (okp hk hq (by omega) (by decide)) fun s ⟨s0, s1, hs⟩ => ?_
    (repeat (refine Okk.chk (by omega) ?_))
    exact .ret ⟨rd9_sz (by decide) s0 (by simpa using s1), hs.mono (by omega)⟩
  · refine .bnd (okp hk hq (by omega) (by decide)) fun s ⟨s0, s1, hs⟩ => ?_
    (repeat (refine Okk.chk (by omega) ?_))
    exact .ret ⟨rd9_sz (by decide) s0 (by simpa using s1), hs.mono (by omega)⟩
theorem ok30 (k : Nat) (x : List Int) (hx : ∀ z ∈ x, 0 ≤ z ∧ z ≤ 255) : Okk (f30 k x) (fun r => Rb 0 r.1) := by
  simp only [f30, start30]
  refine .cnd (fun c => ?_) (fun c => ?_)
  · have := of_decide_eq_true c
    (repeat (refine Okk.chk (by omega) ?_))
    exact .ret ⟨⟨by simp; omega, fun z hz => hx z (List.mem_of_mem_take (by simpa using hz))⟩, Int.le_refl _, Int.le_refl _⟩
  · have := of_decide_eq_false c
    exact .ret ⟨⟨by show x.length ≤ 2000; omega, hx⟩, Int.le_refl _, Int.le_refl _⟩
theorem ok12 {k : Nat} (hk : 2000 < k) (o m : Int) (o0 : 0 ≤ o) (o1 : o < 3) (m0 : 0 ≤ m) (m1 : m ≤ 511) : Okk (f12 k (o, m)) (fun r => Inv 0 r.1.f0) := by
  obtain ⟨k, rfl⟩ : ∃ n, k = n + 1 := ⟨k - 1, by omega⟩
  simp only [f12, start12, f34_eq, f35_eq, in_eq, gUser, Option.bind_some]
  rw [decide_eq_true (⟨o0, by omega⟩ : 0 ≤ o ∧ o ≤ 9), decide_eq_true (⟨m0, m1⟩ : 0 ≤ m ∧ m ≤ 511)]
  simp only [Bool.not_true, cond_false]
  rw [run_succ]; simp only [step12]
  have hm : ∀ n ∈ List.set (List.replicate 10 (⟨0, 0, 0, 0, 0, 0, false, (⟨#[]⟩ : ByteArray), ([] : List S47)⟩ : S34)) 0 (⟨2, m, o, o, 0, 0, false, (⟨#[]⟩ : ByteArray), ([] : List S47)⟩ : S34), n.f8 = [] ∧ n.f7 = ⟨#[]⟩ := by
    intro n hn
    rcases List.mem_or_eq_of_mem_set hn with h | h
    · rw [List.eq_of_mem_replicate h]; exact ⟨rfl, rfl⟩
    · rw [h]; exact ⟨rfl, rfl⟩
  refine .ret ⟨by simp, fun n hn => ?_, fun _ => 0, fun _ => Nat.le_refl _, fun i i0 i1 e he => ?_⟩
  · obtain ⟨h1, h2⟩ := hm n hn
    exact ⟨by rw [h1]; decide, by rw [h2]; decide, fun e he => by rw [h1] at he; cases he⟩
  · rw [(hm _ (rd34_mem i0 (by simp; omega))).1] at he; cases he
theorem mode_of {i : Int} (i0 : 0 ≤ i) (i1 : i < 3) : 0 ≤ rd3 [493, 511, 448] i ∧ rd3 [493, 511, 448] i ≤ 511 := by
  obtain rfl | rfl | rfl : i = 0 ∨ i = 1 ∨ i = 2 := by omega
  all_goals decide
theorem nm4 {i : Int} (i0 : 0 ≤ i) (i1 : i < 4) : (rd9 [(⟨#[97]⟩ : ByteArray), (⟨#[98]⟩ : ByteArray), (⟨#[99]⟩ : ByteArray), (⟨#[97, 98]⟩ : ByteArray)] i).size ≤ 4 := rd9_sz (by decide) i0 (by simpa using i1)

/-! ### something is done -/
def Don (R : Nat) (P : Int) (r : (S27 × Unit) × S94) : Prop := Inv (R + R + 1) r.1.1.f0 ∧ Rb (P + 60) r.2
theorem ok69_19 {k : Nat} {R : Nat} (hk : R + 2000 < k) {m : Nat} (hm : 0 < m) {ns : List S34} (I : Inv R ns) {id to : Int} (h0 : 0 ≤ id) (h1 : id < 10) (t0 : 0 ≤ to) (t1 : to < 10) (s o : ByteArray) (hs : s.size ≤ 4) (ho : o.size ≤ 4) (w : Int) {P : Int} {b : List Int} {p : Int} (hr : Rb P ⟨b, p⟩) (hP : P ≤ 1000000000) (u v : Int) (gs : List Int) (hg : gs.length ≤ 11) {g44 : S27 × Int → Option (Bool)} {g58 : S94 × Unit → Option ((S52) × S94)} {g80 : S27 → Option (S27 × Unit)} {g81 : (List S34) × S52 × Int × ByteArray × Int × Int → Option ((Unit × Int × Int × Unit) × (List S34))} :
    Okk (run (step69 (f31 k) g44 g58 g80 g81 (f82 k) (f83 k) (f84 k) (f85 k) (f86 k) (f87 k)) m (J69.j19 id to s o w b p u v gs ns)) (fun r => Inv (R + R + 1) r.1.1.f0 ∧ Rb (P + 45) r.2) := by
  obtain ⟨m, rfl⟩ : ∃ n, m = n + 1 := ⟨m - 1, by omega⟩
  have hl := I.len
  have II : ∀ {xs : List S34}, Inv R xs → Inv (R + R + 1) xs := fun h => h.mono (by omega)
  rw [run_succ]; simp only [step69]
  refine .cnd (fun _ => .bnd (ok82 k (by omega) I _ (by show gs.length ≤ 1000; omega) t0 t1 h0 h1 s hs) fun r hr2 => .ret ⟨II hr2, hr.mono (by omega)⟩) fun _ => ?_
  refine .cnd (fun _ => .bnd (ok83 k (by omega) I _ (by show gs.length ≤ 1000; omega) h0 h1 s) fun r hr2 => .ret ⟨II hr2, hr.mono (by omega)⟩) fun _ => ?_
  refine .cnd (fun _ => .bnd (ok84 k (by omega) I _ (by show gs.length ≤ 1000; omega) h0 h1 t0 t1 s o ho) fun r hr2 => .ret ⟨hr2, hr.mono (by omega)⟩) fun _ => ?_
  refine .cnd (fun _ => .bnd (okp (by omega) hr (by omega) (by decide)) fun q ⟨q0, q1, hq⟩ => .bnd (ok85 k (by omega) I h0 h1 _) fun r hr2 => .ret ⟨II hr2, hq.mono (by omega)⟩) fun _ => ?_
  refine .cnd (fun _ => ?_) fun _ => ?_
  · (repeat (refine Okk.chk (by omega) ?_))
    refine .cnd (fun _ => .bnd (okp (by omega) hr (by omega) (by decide)) fun q ⟨q0, q1, hq⟩ => ?_) fun _ => .ret ⟨II I, hr.mono (by omega)⟩
    (repeat (refine Okk.chk (by omega) ?_))
    have hd := I.at_ h0 h1
    exact .ret ⟨II (I.upd h0 h1 ⟨hd.l, hd.t, hd.e⟩ (fun h => h) (fun e h => h)), hq.mono (by omega)⟩
  · refine .bnd (okp (by omega) hr (by omega) (by decide)) fun q ⟨q0, q1, hq⟩ => .bnd (ok87 (by omega) hq (by omega) (by decide) (by decide)) fun t ⟨ht, hq2⟩ => .bnd (ok86 k (by omega) I h0 h1 q0 t.1 ht) fun r hr2 => .ret ⟨II hr2, hq2.mono (by omega)⟩
theorem ok69_10 {k : Nat} {R : Nat} (hk : R + 2000 < k) {m : Nat} (hm : 1 < m) {ns : List S34} (I : Inv R ns) {id to : Int} (h0 : 0 ≤ id) (h1 : id < 10) (t0 : 0 ≤ to) (t1 : to < 10) {P : Int} {b : List Int} {p : Int} (hr : Rb P ⟨b, p⟩) (hP : P ≤ 100000000) (u v : Int) (gs : List Int) (hg : gs.length ≤ 11) {g44 : S27 × Int → Option (Bool)} {g58 : S94 × Unit → Option ((S52) × S94)} :
    Okk (run (step69 (f31 k) g44 g58 (f80 k) (f81 k) (f82 k) (f83 k) (f84 k) (f85 k) (f86 k) (f87 k)) m (J69.j10 id to b p ns u v gs)) (fun r => Inv (R + R + 1) r.1.1.f0 ∧ Rb (P + 48) r.2) := by
  obtain ⟨m, rfl⟩ : ∃ n, m = n + 1 := ⟨m - 1, by omega⟩
  rw [run_succ]; simp only [step69]
  refine .bnd (okp (by omega) hr (by omega) (by decide)) fun a ⟨a0, a1, ha⟩ => ?_
  (repeat (refine Okk.chk (by omega) ?_))
  refine .bnd (okp (by omega) ha (by omega) (by decide)) fun c ⟨c0, c1, hc⟩ => ?_
  (repeat (refine Okk.chk (by omega) ?_))
  refine .bnd (ok80' k (by omega) I) fun g hg8 => .bnd (okp (by omega) hc (by omega) (by decide)) fun w ⟨w0, w1, hw⟩ => ?_
  subst hg8
  have n1 := nm4 a0 a1
  have n2 := nm4 c0 c1
  have fin : Okk (run (step69 (f31 k) g44 g58 (f80 k) (f81 k) (f82 k) (f83 k) (f84 k) (f85 k) (f86 k) (f87 k)) m (J69.j19 id to (rd9 [(⟨#[97]⟩ : ByteArray), (⟨#[98]⟩ : ByteArray), (⟨#[99]⟩ : ByteArray), (⟨#[97, 98]⟩ : ByteArray)] a.fst) (rd9 [(⟨#[97]⟩ : ByteArray), (⟨#[98]⟩ : ByteArray), (⟨#[99]⟩ : ByteArray), (⟨#[97, 98]⟩ : ByteArray)] c.fst) w.fst w.snd.f0 w.snd.f1 u v gs ns)) (fun r => Inv (R + R + 1) r.1.1.f0 ∧ Rb (P + 48) r.2) :=
    (ok69_19 hk (by omega) I h0 h1 t0 t1 _ _ n1 n2 w.1 hw (by omega) u v gs hg).mono fun r ⟨h1, h2⟩ => ⟨h1, h2.mono (by omega)⟩
  have mk : ∀ (v2 : S52), v2.f2.length ≤ 1000 → Okk ((f31 k (w.snd, 2)).bind fun r10 => (f31 k (r10.snd, 3)).bind fun r11 => (cond (decide ((0 : Int) ≤ (r11).fst)) (cond (decide (((r11).fst : Int) < 3)) (cond (decide ((0 : Int) ≤ (r11).fst)) (cond (decide (((r11).fst : Int) < 3)) (((f81 k (ns, (v2, (id, ((rd9 [(⟨#[97]⟩ : ByteArray), (⟨#[98]⟩ : ByteArray), (⟨#[99]⟩ : ByteArray), (⟨#[97, 98]⟩ : ByteArray)] a.fst), ((w64 (1 + (r10).fst)), (rd3 [493, 511, 448] (r11).fst)))))))).bind fun r12 => (some (((⟨(r12).snd⟩ : S27), ()), ((r11).snd)))) none) none) none) none)) (fun r => Inv (R + R + 1) r.1.1.f0 ∧ Rb (P + 48) r.2) := by
    intro v2 hv
    refine .bnd (okp (by omega) hw (by omega) (by decide)) fun x ⟨x0, x1, hx⟩ => .bnd (okp (by omega) hx (by omega) (by decide)) fun y ⟨y0, y1, hy⟩ => ?_
    (repeat (refine Okk.chk (by omega) ?_))
    exact .bnd (ok81 k (by omega) I v2 hv h0 h1 _ n1 _ _) fun r hr2 => .ret ⟨hr2.mono (by omega), hy.mono (by omega)⟩
  have hv : (⟨u, v, gs⟩ : S52).f2.length ≤ 1000 := by show gs.length ≤ 1000; omega
  exact .cnd (fun _ => .cnd (fun _ => mk _ hv) fun _ => fin) fun _ => .cnd (fun _ => .cnd (fun _ => mk _ hv) fun _ => fin) fun _ => .cnd (fun _ => mk _ hv) fun _ => fin
theorem ok69 {k : Nat} {R : Nat} (hk : R + 3000 < k) {ns : List S34} (I : Inv R ns) {P : Int} {r : S94} (hr : Rb P r) (hP : P ≤ 10000000) : Okk (f69 k (r, ⟨ns⟩)) (fun r => Inv (R + R + 1) r.1.1.f0 ∧ Rb (P + 70) r.2) := by
  have hl := I.len
  obtain ⟨m, rfl⟩ : ∃ n, k = n + 5 := ⟨k - 5, by omega⟩
  have k8 : ∀ (id to : Int) (b : List Int) (p u v : Int) (gs : List Int), 0 ≤ id → id < 10 → 0 ≤ to → to < 10 → gs.length ≤ 11 → Rb (P + 12) ⟨b, p⟩ →
      Okk (run (step69 (f31 (m + 5)) (f44 (m + 5)) (f58 (m + 5)) (f80 (m + 5)) (f81 (m + 5)) (f82 (m + 5)) (f83 (m + 5)) (f84 (m + 5)) (f85 (m + 5)) (f86 (m + 5)) (f87 (m + 5))) (m + 4) (J69.j8 id to b p ns u v gs)) (fun r => Inv (R + R + 1) r.1.1.f0 ∧ Rb (P + 70) r.2) := by
    intro id to b p u v gs h0 h1 t0 t1 hg hb
    rw [run_succ]; simp only [step69]
    refine .bnd (ok44 _ ns hl to t0 t1) fun _ _ => .cnd (fun _ => ?_) fun _ => ?_
    · exact (ok69_10 (by omega) (by omega) I h0 h1 (by decide) (by decide) hb (by omega) u v gs hg).mono fun r ⟨h1, h2⟩ => ⟨h1, h2.mono (by omega)⟩
    · exact (ok69_10 (by omega) (by omega) I h0 h1 t0 t1 hb (by omega) u v gs hg).mono fun r ⟨h1, h2⟩ => ⟨h1, h2.mono (by omega)⟩
  have k4 : ∀ (b : List Int) (p u v : Int) (gs : List Int), gs.length ≤ 11 → Rb (P + 10) ⟨b, p⟩ →
      Okk (run (step69 (f31 (m + 5)) (f44 (m + 5)) (f58 (m + 5)) (f80 (m + 5)) (f81 (m + 5)) (f82 (m + 5)) (f83 (m + 5)) (f84 (m + 5)) (f85 (m + 5)) (f86 (m + 5)) (f87 (m + 5))) (m + 5) (J69.j4 b p ns u v gs)) (fun r => Inv (R + R + 1) r.1.1.f0 ∧ Rb (P + 70) r.2) := by
    intro b p u v gs hg hb
    rw [run_succ]; simp only [step69]
    refine .bnd (okp (by omega) hb (by omega) (by decide)) fun x ⟨x0, x1, hx⟩ => .bnd (okp (by omega) hx (by omega) (by decide)) fun y ⟨y0, y1, hy⟩ => ?_
    refine .bnd (ok44 _ ns hl x.1 x0 (by omega)) fun _ _ => .cnd (fun _ => ?_) fun _ => ?_
    · exact k8 _ _ _ _ _ _ _ (by decide) (by decide) y0 (by omega) hg (hy.mono (by omega))
    · exact k8 _ _ _ _ _ _ _ x0 (by omega) y0 (by omega) hg (hy.mono (by omega))
  simp only [f69, start69]
  refine .bnd (ok58 (by omega) hr (by omega)) fun c ⟨hc, hr1⟩ => .bnd (okp (by omega) hr1 (by omega) (by decide)) fun x ⟨x0, x1, hx⟩ => .cnd (fun _ => ?_) fun _ => ?_
  · exact k4 _ _ _ _ _ hc (hx.mono (by omega))
  · exact k4 _ _ _ _ _ hc (hx.mono (by omega))

/-! ### a file system, some spoilt -/
theorem Nd.fit {n : S34} (h : Nd n) : FitN n := ⟨by have := h.l; omega, fun e he => by have := (h.e e he).2.2; omega⟩
theorem set_fit {ns : List S34} (h : ∀ n ∈ ns, FitN n) (i : Nat) {x : S34} (hx : FitN x) : ∀ n ∈ ns.set i x, FitN n := fun n hn => by
  rcases List.mem_or_eq_of_mem_set hn with h1 | h1
  · exact h n h1
  · exact h1 ▸ hx
def Drw (r : S27 × S94) : Prop := (∀ z ∈ r.1.f0, FitN z) ∧ r.1.f0.length ≤ 10 ∧ Rb 100000 r.2
theorem ok47_end {k : Nat} (hk : 100000 < k) {m : Nat} {R : Nat} {ns : List S34} (I : Inv R ns) {P : Int} {b : List Int} {p : Int} (hr : Rb P ⟨b, p⟩) (hP : P ≤ 50000) {g12 : Int × Int → Option (S27 × Bool × Unit)} {g69 : S94 × S27 → Option ((S27 × Unit) × S94)} : Okk (run (step47 g12 (f31 k) (f59 k) g69) (m + 1) (J47.j3 0 b p ns)) Drw := by
  have hl := I.len
  have hf : ∀ n ∈ ns, FitN n := fun n hn => (I.nd n hn).fit
  have hk2 : 2000 < k := by omega
  have at_ : ∀ i : Int, 0 ≤ i → i < 5 → Nd (rd34 ns i) := fun i h0 h1 => I.at_ h0 (by omega)
  have sl : ∀ (i : Nat) (x : S34), (ns.set i x).length ≤ 10 := fun i x => by rw [List.length_set]; omega
  rw [run_succ]; simp only [step47]
  rw [decide_eq_false (by decide : ¬ ((0 : Int) > 0)), cond_false]
  refine .bnd (okp hk2 hr (by omega) (by decide)) fun q ⟨q0, q1, hq⟩ => .cnd (fun _ => ?_) fun _ => .cnd (fun _ => ?_) fun _ => .cnd (fun _ => ?_) fun _ => .cnd (fun _ => ?_) fun _ => .cnd (fun _ => ?_) fun _ => ?_
  · refine .bnd (okp hk2 hq (by omega) (by decide)) fun x ⟨x0, x1, hx⟩ => .bnd (okp hk2 hx (by omega) (by decide)) fun y ⟨y0, y1, hy⟩ => ?_
    (repeat (refine Okk.chk (by omega) ?_))
    have hd := (at_ x.1 x0 x1).fit
    exact .ret ⟨set_fit hf _ ⟨hd.l, hd.n⟩, sl _ _, hy.mono (by omega)⟩
  · refine .bnd (okp hk2 hq (by omega) (by decide)) fun x ⟨x0, x1, hx⟩ => .bnd (okp hk2 hx (by omega) (by decide)) fun y ⟨y0, y1, hy⟩ => ?_
    (repeat (refine Okk.chk (by omega) ?_))
    refine .bnd (ok59 hk2 hy (by omega)) fun t ⟨ht, hr1⟩ => .bnd (okp hk2 hr1 (by omega) (by decide)) fun z ⟨z0, z1, hz⟩ => ?_
    have hd := at_ y.1 y0 y1
    have := hd.l
    refine .chk (by simp; omega) ?_
    (repeat (refine Okk.chk (by omega) ?_))
    refine .ret ⟨set_fit hf _ ⟨?_, fun e he => ?_⟩, sl _ _, hz.mono (by omega)⟩
    · show (_ ++ [_] : List S47).length ≤ 1048576
      simp; omega
    · rcases List.mem_append.mp he with h | h
      · have := (hd.e e h).2.2; omega
      · rw [List.mem_singleton.mp h]; show t.1.size ≤ 1048576; omega
  · refine .bnd (okp hk2 hq (by omega) (by decide)) fun x ⟨x0, x1, hx⟩ => .bnd (okp hk2 hx (by omega) (by decide)) fun y ⟨y0, y1, hy⟩ => ?_
    (repeat (refine Okk.chk (by omega) ?_))
    have hd := (at_ x.1 x0 x1).fit
    exact .ret ⟨set_fit hf _ ⟨hd.l, hd.n⟩, sl _ _, hy.mono (by omega)⟩
  · (repeat (refine Okk.chk (by omega) ?_))
    exact .ret ⟨fun z hz => hf z (List.mem_of_mem_take (List.mem_of_mem_drop hz)), by show (List.drop 1 (List.take _ ns)).length ≤ 10; simp; omega, hq.mono (by omega)⟩
  · refine .bnd (okp hk2 hq (by omega) (by decide)) fun x ⟨x0, x1, hx⟩ => .bnd (okp hk2 hx (by omega) (by decide)) fun y ⟨y0, y1, hy⟩ => ?_
    (repeat (refine Okk.chk (by omega) ?_))
    have hd := (at_ x.1 x0 x1).fit
    exact .ret ⟨set_fit hf _ ⟨hd.l, hd.n⟩, sl _ _, hy.mono (by omega)⟩
  · exact .ret ⟨hf, by show ns.length ≤ 10; omega, hq.mono (by omega)⟩
theorem ok47_loop {k : Nat} (hk : 100000 < k) {g12 : Int × Int → Option (S27 × Bool × Unit)} : ∀ (d m : Nat) (R : Nat) (ns : List S34) (P : Int) (b : List Int) (p : Int), d < m → Inv R ns → (R + 1) * 2 ^ d ≤ 80000 → Rb P ⟨b, p⟩ → P + 70 * d ≤ 50000 → Okk (run (step47 g12 (f31 k) (f59 k) (f69 k)) m (J47.j3 (d : Int) b p ns)) Drw
  | d, 0, R, ns, P, b, p, h, _, _, _, _ => by omega
  | 0, m + 1, R, ns, P, b, p, _, I, _, hr, hP => ok47_end hk I hr (by omega)
  | d + 1, m + 1, R, ns, P, b, p, h, I, hR, hr, hP => by
    rw [run_succ]; simp only [step47]
    rw [decide_eq_true (by omega : (((d + 1 : Nat) : Int) > 0)), cond_true]
    have q1 : 0 ≤ p := hr.lo
    have q2 : p ≤ P := hr.hi
    rw [show w64 (((d + 1 : Nat) : Int) - 1) = (d : Int) from by rw [w64_id (by omega) (by omega)]; omega]
    have hp : 1 ≤ 2 ^ d := Nat.one_le_two_pow
    have hR2 : (R + R + 1 + 1) * 2 ^ d ≤ 80000 := by
      have : (R + R + 1 + 1) * 2 ^ d = (R + 1) * 2 ^ (d + 1) := by rw [Nat.pow_succ, show R + R + 1 + 1 = (R + 1) * 2 from by omega, Nat.mul_assoc, Nat.mul_comm 2]
      omega
    have hR3 : R + R + 2 ≤ 80000 := Nat.le_trans (Nat.le_mul_of_pos_right _ hp) hR2
    refine .bnd (ok69 (by omega) I hr (by omega)) fun r ⟨J, hr1⟩ => ?_
    exact ok47_loop hk d m (R + R + 1) _ (P + 70) _ _ (by omega) J hR2 hr1 (by omega)
theorem ok47 {k : Nat} (hk : 100000 < k) {r : S94} (hr : Rb 0 r) : Okk (f47 k (r, ())) Drw := by
  have hk2 : 2000 < k := by omega
  simp only [f47, start47]
  refine .bnd (okp hk2 hr (by omega) (by decide)) fun x ⟨x0, x1, hx⟩ => .bnd (okp hk2 hx (by omega) (by decide)) fun y ⟨y0, y1, hy⟩ => ?_
  (repeat (refine Okk.chk (by omega) ?_))
  obtain ⟨m0, m1⟩ := mode_of y0 y1
  refine .bnd (ok12 hk2 x.1 _ x0 x1 m0 m1) fun f hf => .bnd (okp hk2 hy (by omega) (by decide)) fun z ⟨z0, z1, hz⟩ => ?_
  obtain ⟨d, hd⟩ : ∃ d : Nat, z.1 = d := ⟨z.1.toNat, by omega⟩
  rw [hd]
  have : 2 ^ d ≤ 2 ^ 15 := Nat.pow_le_pow_right (by decide) (by omega)
  exact ok47_loop hk d k 0 _ _ _ _ (by omega) hf (by omega) hz (by omega)
end Go.Sx
