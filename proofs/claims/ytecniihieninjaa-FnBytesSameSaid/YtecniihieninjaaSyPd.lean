/- An evaluator of the model's code over symbolic values, and its soundness: part 21. No condition. -/
import Derived.Test.YtecniihieninjaaSyP
set_option linter.unusedVariables false
set_option linter.unusedSimpArgs false
namespace Go.Sx
open Go.RowKit
variable {T : Nat → Type} {R : Type} {F : Fn T R} {w0 : Frm} {M0 : Mem}

theorem maskFold (masks : List Nat) (z : Nat) : ∀ (es : List Edge) (m : Nat), (es.foldl (fun m e => match Region.binds .any e with | true => m ||| (2 ^ e.on ||| masks.getD e.on 0) | false => m) m).testBit z = true →
    m.testBit z = true ∨ ∃ e ∈ es, Region.binds .any e = true ∧ (z = e.on ∨ (masks.getD e.on 0).testBit z = true)
  | [], m, h => .inl h
  | e :: es, m, h => by
    simp only [List.foldl_cons] at h
    rcases maskFold masks z es _ h with h | ⟨e', he, hb⟩
    · split at h
      · rename_i hb
        rw [Nat.testBit_or, Nat.testBit_or, Nat.testBit_two_pow] at h
        simp only [Bool.or_eq_true, decide_eq_true_eq] at h
        rcases h with h | h | h
        · exact .inl h
        · exact .inr ⟨e, List.mem_cons_self .., hb, .inl h.symm⟩
        · exact .inr ⟨e, List.mem_cons_self .., hb, .inr h⟩
      · exact .inl h
    · exact .inr ⟨e', List.mem_cons_of_mem _ he, hb⟩

theorem masksOf_get : ∀ (l : List Oper) (acc : List Nat) (i : Nat), i < acc.length → (masksOf l acc).getD i 0 = acc.getD i 0
  | [], acc, i, _ => rfl
  | o :: l, acc, i, h => by
    simp only [masksOf]
    rw [masksOf_get l _ i (by simp; omega)]
    simp [List.getD_eq_getElem?_getD, List.getElem?_append_left h]

/-- What stands before an operation hangs on its own edges. -/
theorem masks_spec : ∀ (l : List Oper) (acc : List Nat) (j : Nat) (o : Oper), l[j]? = some o → (∀ e ∈ o.after, Region.binds .any e = true → e.on < acc.length + j) → ∀ z, ((masksOf l acc).getD (acc.length + j) 0).testBit z = true →
    ∃ e ∈ o.after, Region.binds .any e = true ∧ (z = e.on ∨ ((masksOf l acc).getD e.on 0).testBit z = true)
  | [], acc, j, o, h, _, z, _ => by simp at h
  | o' :: l, acc, j, o, h, hlt, z, hz => by
    simp only [masksOf] at hz ⊢
    cases j with
    | zero =>
      simp only [List.getElem?_cons_zero, Option.some.injEq] at h
      subst h
      rw [masksOf_get l _ _ (by simp)] at hz
      simp only [Nat.add_zero, List.getD_eq_getElem?_getD, List.getElem?_append_right (Nat.le_refl _), Nat.sub_self, List.getElem?_cons_zero, Option.getD_some] at hz
      rcases maskFold acc z _ 0 hz with h0 | ⟨e, he, hb, hz⟩
      · simp at h0
      · have he' : e ∈ o'.after := by simpa using he
        refine ⟨e, he', hb, ?_⟩
        rcases hz with h | h
        · exact .inl h
        · have hlt' := hlt e he' hb
          rw [masksOf_get l _ _ (by simp; omega)]
          rw [List.getD_eq_getElem?_getD] at h
          simp only [List.getD_eq_getElem?_getD, List.getElem?_append_left (by omega : e.on < acc.length)]
          exact .inr h
    | succ j =>
      rw [List.getElem?_cons_succ] at h
      have := masks_spec l (acc ++ [maskOf acc o']) j o h (fun e he hb => by have := hlt e he hb; simp; omega) z (by simpa [Nat.add_assoc, Nat.add_comm 1 j] using hz)
      exact this

theorem afterOk_spec : ∀ (l : List Oper) (i : Nat), afterOk l i = true → ∀ j o, l[j]? = some o → ∀ e ∈ o.after, Region.binds .any e = true → e.on < i + j
  | [], i, _, j, o, h => by simp at h
  | o' :: l, i, h, j, o, hj => by
    simp only [afterOk, Bool.and_eq_true] at h
    obtain ⟨h1, h2⟩ := h
    cases j with
    | zero =>
      simp only [List.getElem?_cons_zero, Option.some.injEq] at hj
      subst hj
      intro e he hb
      have := List.all_eq_true.1 h1 e (by simpa using he)
      simp only [hb, Nat.blt_eq] at this
      simpa using this
    | succ j =>
      rw [List.getElem?_cons_succ] at hj
      intro e he hb
      have := afterOk_spec l (i + 1) h2 j o hj e he hb
      omega

def PwOk (masks : List Nat) : List (It T) → Prop
  | [] => True
  | x :: L => (∀ y ∈ L, x.i < y.i ∧ ((masks.getD y.i 0).testBit x.i = true ∨ indepB x.f y.f = true)) ∧ PwOk masks L

theorem PwOk.split {masks : List Nat} {y : It T} {L2 : List (It T)} : ∀ {L1 : List (It T)}, PwOk masks (L1 ++ y :: L2) → (∀ x ∈ L1, x.i < y.i ∧ ((masks.getD y.i 0).testBit x.i = true ∨ indepB x.f y.f = true)) ∧ PwOk masks (L1 ++ L2)
  | [], h => ⟨fun x hx => by simp at hx, h.2⟩
  | x :: L1, h => by
    obtain ⟨h1, h2⟩ := h
    obtain ⟨h3, h4⟩ := PwOk.split h2
    refine ⟨fun z hz => ?_, fun z hz => h1 z ?_, h4⟩
    · rcases List.mem_cons.1 hz with rfl | hz
      · exact h1 y (by simp)
      · exact h3 z hz
    · rcases List.mem_append.1 hz with hz | hz
      · exact List.mem_append_left _ hz
      · exact List.mem_append_right _ (List.mem_cons_of_mem _ hz)

theorem pairs_pw {masks : List Nat} : ∀ {L : List (It T)} {i : Nat}, pairsOk masks (L.map (·.f)) i = true → L.map (·.i) = List.range' i L.length → PwOk masks L
  | [], i, _, _ => trivial
  | x :: L, i, h, hi => by
    simp only [List.map_cons, List.length_cons, List.range'_succ, List.cons.injEq] at hi
    obtain ⟨h0, h1⟩ := hi
    simp only [List.map_cons, pairsOk, Bool.and_eq_true] at h
    refine ⟨fun y hy => ?_, pairs_pw h.2 h1⟩
    obtain ⟨j, hj, rfl⟩ := List.getElem_of_mem hy
    have hyi : L[j].i = i + 1 + j := by
      have : (L.map (·.i))[j]? = some (L[j].i) := by simp [hj]
      rw [h1, List.getElem?_range'] at this
      · simpa using this.symm
      · exact hj
    refine ⟨by omega, ?_⟩
    have := List.all_eq_true.1 h.1 (L[j].f, i + 1 + j) (by
      rw [List.mem_iff_getElem?]
      exact ⟨j, by simp [hj]⟩)
    simp only [Bool.or_eq_true] at this
    rw [hyi, h0]
    exact this

theorem ch_any (hF : FnOk F) {ops : Array Oper} {nb : Nat} {Q : Exit → Act → World → Prop} {s' : St T} {masks : List Nat} {E : Nat}
    (hlt : ∀ i o, ops[i]? = some o → ∀ e ∈ o.after, Region.binds .any e = true → e.on < i)
    (hmask : ∀ i o, ops[i]? = some o → ∀ z, (masks.getD i 0).testBit z = true → ∃ e ∈ o.after, Region.binds .any e = true ∧ (z = e.on ∨ (masks.getD e.on 0).testBit z = true))
    (hQ : ∀ a' w' ρ' M', Rc F.U w0 M0 F.nt s' a' w' ρ' M' → (∀ b, E ≤ b → ρ' b = none) → Q .normal a' w') :
    ∀ (n : Nat) {L : List (It T)} {listed : Array Bool} {s : St T} {a : Act} {w : World} {ρ : Nat → Option Value} {M : Mem}, L.length = n → Ch L s s' → (∀ it ∈ L, ItOk F ops nb it ∧ nb + 16 * it.i + 16 ≤ E) → PwOk masks L → listed.size = ops.size →
      (∀ i, i < ops.size → (listed.getD i true = false ↔ ∃ it ∈ L, it.i = i)) → (∀ i, listed.getD i false = true → ∀ z, (masks.getD i 0).testBit z = true → listed.getD z false = true) →
      Rc F.U w0 M0 F.nt s a w ρ M → (∀ it ∈ L, ∀ b, nb + 16 * it.i ≤ b → b < nb + 16 * it.i + 16 → ρ b = none) → (∀ b, E ≤ b → ρ b = none) → wpAny F.P .any ops Q n listed a w
  | 0, L, listed, s, a, w, ρ, M, hn, h, _, _, hsz, hL, _, Rr, _, hE => by
    have hnil : L = [] := List.eq_nil_of_length_eq_zero hn
    subst hnil
    refine ⟨?_, hQ a w ρ M (Rr.congr h) hE⟩
    apply List.eq_nil_iff_forall_not_mem.2
    intro j hj
    obtain ⟨h1, o, ho, _⟩ := mem_ready.1 hj
    obtain ⟨it, hit, _⟩ := (hL j (Array.getElem?_eq_some_iff.1 ho).1).1 h1
    simp at hit
  | n + 1, L, listed, s, a, w, ρ, M, hn, h, hok, hpw, hsz, hL, hcl, Rr, hfr, hE => by
    have getT : ∀ i, i < ops.size → (listed.getD i false = true ↔ ¬ listed.getD i true = false) := by
      intro i hi
      have : i < listed.size := by omega
      simp [this]
    refine ⟨fun hr => ?_, fun j hj => ?_⟩
    · -- something is ready: the first that is left
      cases L with
      | nil => simp at hn
      | cons it L =>
        exfalso
        have ok := (hok it (List.mem_cons_self ..)).1
        have hi : it.i < ops.size := (Array.getElem?_eq_some_iff.1 ok.at_).1
        have : it.i ∈ Region.ready .any ops listed := by
          refine mem_ready.2 ⟨(hL it.i hi).2 ⟨it, List.mem_cons_self .., rfl⟩, it.o, ok.at_, fun e he hb => ?_⟩
          have hei := hlt _ _ ok.at_ e he hb
          rw [getT e.on (by omega)]
          intro hun
          obtain ⟨it', hit', e'⟩ := (hL e.on (by omega)).1 hun
          rcases List.mem_cons.1 hit' with rfl | hit'
          · omega
          · have := (hpw.1 it' hit').1
            omega
        rw [hr] at this
        simp at this
    · obtain ⟨h1, o, ho, hall⟩ := mem_ready.1 hj
      have hjs : j < ops.size := (Array.getElem?_eq_some_iff.1 ho).1
      obtain ⟨it, hit, rfl⟩ := (hL j hjs).1 h1
      obtain ⟨L1, L2, rfl⟩ := List.append_of_mem hit
      have ok := (hok it hit).1
      have heo : it.o = o := by have := ok.at_; rw [ho] at this; cases this; rfl
      -- what stands before it has come up
      have hpre : ∀ z, (masks.getD it.i 0).testBit z = true → listed.getD z false = true := by
        intro z hz
        obtain ⟨e, he, hb, hz⟩ := hmask _ _ ho z hz
        rcases hz with rfl | hz
        · exact hall e he hb
        · exact hcl e.on (hall e he hb) z hz
      obtain ⟨hp1, hp2⟩ := hpw.split
      have hmem : ∀ x, x ∈ L1 ++ L2 → x ∈ L1 ++ it :: L2 := fun x hx => by
        rcases List.mem_append.1 hx with hx | hx
        · exact List.mem_append_left _ hx
        · exact List.mem_append_right _ (List.mem_cons_of_mem _ hx)
      have hind : ∀ x ∈ L1, ItOk F ops nb x ∧ indepB x.f it.f = true := by
        intro x hx
        have okx := (hok x (List.mem_append_left _ hx)).1
        refine ⟨okx, (hp1 x hx).2.resolve_left fun hz => ?_⟩
        have hxs : x.i < ops.size := (Array.getElem?_eq_some_iff.1 okx.at_).1
        exact (getT x.i hxs).1 (hpre _ hz) ((hL x.i hxs).2 ⟨x, List.mem_append_left _ hx, rfl⟩)
      have hch := Ch.front ok hind h
      refine run1_sound hF ho (heo ▸ ok.dst) (Rr.rl (nid := nb + 16 * it.i) fun b => hfr it hit b) (heo ▸ ok.run s hch.1) fun a' w' ρ' M' k1 k2 => ?_
      rw [← heo] at k2
      have hne : ∀ x ∈ L1 ++ L2, x.i ≠ it.i := by
        intro x hx e
        rcases List.mem_append.1 hx with hx | hx
        · have := (hp1 x hx).1; omega
        · have : ∀ {L1 : List (It T)}, PwOk masks (L1 ++ it :: L2) → it.i < x.i := by
            intro L1
            induction L1 with
            | nil => intro h; exact (h.1 x hx).1
            | cons y L1 ih => intro h; exact ih h.2
          have := this hpw
          omega
      refine ch_any hF hlt hmask hQ n (by simp at hn ⊢; omega) hch.2 (fun x hx => hok x (hmem x hx)) hp2 (by simpa using hsz) (fun i hi => ?_) (fun i hi z hz => ?_) k2 (fun x hx b b1 b2 => k1 b ?_ (hfr x (hmem x hx) b b1 b2)) (fun b hb => k1 b ?_ (hE b hb))
      · by_cases e : it.i = i
        · subst e
          have : (listed.setIfInBounds it.i true).getD it.i true = true := by
            have : it.i < listed.size := by omega
            simp [this]
          rw [this]
          refine ⟨fun h => (by cases h), fun ⟨x, hx, e⟩ => absurd e (hne x hx)⟩
        · rw [getD_set_ne true e, hL i hi]
          refine ⟨fun ⟨x, hx, e'⟩ => ⟨x, ?_, e'⟩, fun ⟨x, hx, e'⟩ => ⟨x, hmem x hx, e'⟩⟩
          rcases List.mem_append.1 hx with hx | hx
          · exact List.mem_append_left _ hx
          · rcases List.mem_cons.1 hx with rfl | hx
            · exact absurd e' e
            · exact List.mem_append_right _ hx
      · by_cases e : it.i = i
        · subst e
          exact getD_set_true (hpre z hz)
        · rw [getD_set_ne false e] at hi
          exact getD_set_true (hcl i hi z hz)
      · have := hne x hx
        omega
      · have := (hok it hit).2
        omega

theorem draw_sound (hF : FnOk F) (hm : F.P.follows .mixedOrders = true) {ops : Array Oper} {id nb : Nat} {s : St T} {a : Act} {w : World} {ρ : Nat → Option Value} {M : Mem} {r : R} {k : St T → List Foot → Option R} {Q : Exit → Act → World → Prop}
    (h : evOps F ops nb ops.toList 0 s [] k = some r) (Rr : Rc F.U w0 M0 F.nt s a w ρ M) (hn : ∀ b, nb ≤ b → ρ b = none)
    (hk : ∀ s1 fs, k s1 fs = some r → drawOk ops fs = true ∧ ∀ s' a' w' ρ' M', SEq s' s1 → Rc F.U w0 M0 F.nt s' a' w' ρ' M' → (∀ b, nb + 16 * ops.size ≤ b → ρ' b = none) → Q .normal a' w') :
    (Code.region id ops true).wp F.P Q a w := by
  obtain ⟨L, s', s1', e1, e2, e3, e4, e5⟩ := trace h (.refl _) (fun j => by simp)
  obtain ⟨hd, hQ⟩ := hk _ _ e2
  simp only [List.nil_append, drawOk, Bool.and_eq_true] at hd
  have hlen : L.length = ops.size := by
    have := congrArg List.length e4
    simpa using this
  have hidx : ∀ it ∈ L, it.i < ops.size := fun it hit => (Array.getElem?_eq_some_iff.1 (e3 it hit).at_).1
  have hlt : ∀ i o, ops[i]? = some o → ∀ e ∈ o.after, Region.binds .any e = true → e.on < i := fun i o ho e he hb => by
    have := afterOk_spec _ 0 hd.1 i o (by simpa using ho) e he hb
    omega
  refine wp_region_any hm ?_
  refine ch_any (w0 := w0) (M0 := M0) (s' := s') (masks := masksOf ops.toList []) (E := nb + 16 * ops.size) hF hlt (fun i o ho z hz => ?_) (fun a' w' ρ' M' r1 r2 => hQ s' a' w' ρ' M' e1 r1 r2) ops.size hlen e5 (fun it hit => ⟨e3 it hit, by have := hidx it hit; omega⟩) ?_ (by simp) (fun i hi => ?_) (fun i hi => ?_)
    (s := s) (ρ := ρ) (M := M) ⟨Rr.mr.drew _, Rr.tm, Rr.sz, Rr.df, Rr.hx.drew _⟩ (fun it hit b b1 b2 => hn b (by omega)) (fun b hb => hn b (by omega))
  · have := masks_spec ops.toList [] i o (by simpa using ho) (fun e he hb => by have := hlt i o ho e he hb; simpa using this) z (by simpa using hz)
    simpa using this
  · refine pairs_pw hd.2 ?_
    rw [e4, hlen]
    simp
  · have : (Array.replicate ops.size false).getD i true = false := by simp [hi]
    rw [this]
    refine ⟨fun _ => ?_, fun _ => rfl⟩
    have : i ∈ L.map (·.i) := by
      rw [e4]
      simp
      exact hi
    obtain ⟨it, hit, e⟩ := List.mem_map.1 this
    exact ⟨it, hit, e⟩
  · rcases Nat.lt_or_ge i ops.size with h | h
    · simp [h] at hi
    · simp [show ¬ i < ops.size by omega] at hi
end Go.Sx
