/- A bridge: whatever Go's reading of data (DataW.trod) takes in at a type is of the printed words' kind (Kd) for that type, within the bounds that the reading owes. -/
import Derived.Test.YtjajfbgijailmaaWWords
import Derived.Deep.Slices
import Derived.SizedLaws
import Derived.WideShapes
namespace Go.Proofs.Ytjajfbgijailmaa.Br
open Go.ChangeShapes Go.WideShapes Go.RowKit Go.Deep Go.Proofs.YtjajfbgijailmaaW.PrintWords

section
variable {H : Type} {enc : TypeId × Value → H} {P : Program} {W : World} {α β : Type}

/-- What reads at type t in W is of kind k, and B holds of it. -/
def Br (enc : TypeId × Value → H) (P : Program) (W : World) (t : TypeId) (k : Kd α) (B : α → Prop) : Prop :=
  ∀ (fuel : Nat) (cs : List Value) (dat : DataW H) (ps : List MemPlace), DataW.trod enc P W 0 (fun _ => true) true fuel t cs = some (dat, ps) →
    (∀ n ∈ dat.weights P t, n ≤ reachBytes) → ∃ x, k.K W x cs ∧ B x

theorem br_int {t : TypeId} {ik : IntKind} (ht : P.underlying t = some (.int ik)) : Br enc P W t (Kd.int ik) (fun x => (Lit.int ik x).wf = true) := by
  intro fuel cs dat ps h _
  obtain ⟨n, rfl, _, hw⟩ := DataW.trod_int ht h
  exact ⟨n, rfl, hw⟩
theorem br_bool {t : TypeId} (ht : P.underlying t = some .bool) : Br enc P W t Kd.bool (fun _ => True) := by
  intro fuel cs dat ps h _
  obtain ⟨n, rfl, _⟩ := DataW.trod_bool ht h
  exact ⟨n, rfl, trivial⟩
theorem br_string {t : TypeId} (ht : P.underlying t = some .string) : Br enc P W t Kd.string (fun s => s.size ≤ 140737488351232) := by
  intro fuel cs dat ps h hw
  obtain ⟨s, rfl, hx, _⟩ := DataW.trod_string ht h
  have hd : dat = .lit (.string s.data.toList) := (Prod.mk.inj hx).1
  subst hd
  refine ⟨s, rfl, ?_⟩
  have h1 := hw s.data.toList.length (by simp [DataW.weights])
  rw [data_length] at h1
  exact h1

theorem weights_all_mem {e : TypeId} : ∀ {l : List (DataW H)} {d : DataW H}, d ∈ l → ∀ n ∈ d.weights P e, n ∈ DataW.weightsAll P e l
  | d0 :: l, d, hd, n, hn => by
    rcases List.mem_cons.1 hd with rfl | hd
    · simp only [DataW.weightsAll, List.mem_append]; exact Or.inl hn
    · simp only [DataW.weightsAll, List.mem_append]; exact Or.inr (weights_all_mem hd n hn)

theorem br_slice [Inhabited α] {t e : TypeId} {k : Kd α} {B : α → Prop} (bytes : Nat) (ht : P.underlying t = some (.slice e)) (hs : P.cellsOf e = k.sz) (hb : P.bytesOf e = bytes)
    (hk : Br enc P W e k B) : Br enc P W t (Kd.slice e k) (fun xs => xs.length * bytes ≤ 140737488351232 ∧ ∀ x ∈ xs, B x) := by
  intro fuel cs dat ps h hw
  rcases open_slice ht h with ⟨rfl, _⟩ | ⟨a, len, cap, m, n, D, Pl, rfl, _, hl, hm, hmm, hx, hel⟩
  · exact ⟨[], ⟨none, 0, rfl, Nat.le_refl _, Kd.C_nil k W⟩, by simp, by simp⟩
  · have hd : dat = .slice ((List.range len).map D) ((List.range (m - len)).map fun j => D (len + j)) := (Prod.mk.inj hx).1
    subst hd
    have hm' : m = cap := by simpa using hmm
    obtain ⟨f, hf⟩ := choose_lt (α := α) (n := len) (p := fun i x => (∃ cs', W.cells? 0 (a.add (i * P.cellsOf e)) (P.cellsOf e) = some cs' ∧ k.K W x cs') ∧ B x) (fun i hi => by
      obtain ⟨cs', h1, h2⟩ := hel i (by omega)
      obtain ⟨x, hx1, hx2⟩ := hk n cs' (D i) (Pl i) h2 (fun q hq => hw q (by
        simp only [DataW.weights, ht, List.mem_cons, List.mem_append]
        exact Or.inr (Or.inl (weights_all_mem (List.mem_map.2 ⟨i, List.mem_range.2 hi, rfl⟩) q hq))))
      exact ⟨x, ⟨cs', h1, hx1⟩, hx2⟩)
    have hlen : ((List.range len).map f).length = len := by simp
    refine ⟨(List.range len).map f, ⟨some a, cap, by rw [hlen], by rw [hlen]; exact hl, ?_⟩, ?_, ?_⟩
    · refine ⟨rfl, ?_, fun _ => ⟨a, rfl, fun j p hj => ?_⟩⟩
      · rw [hlen]; unfold maxLen at hm; omega
      · have hjl : j < len := by
          have := (List.getElem?_eq_some_iff.1 hj).1
          rwa [hlen] at this
        have hp : f j = p := by
          simpa [hjl] using hj
        subst hp
        obtain ⟨⟨cs', h1, h2⟩, _⟩ := hf j hjl
        rw [hs] at h1
        refine ⟨cs', k.K_len h2, h2, fun i u hu => ?_⟩
        obtain ⟨_, hlen', hc⟩ := World.cells?_some h1
        have hi : i < cs'.length := (List.getElem?_eq_some_iff.1 hu).1
        have h3 := hc i (by omega)
        rw [Deep.add_add] at h3
        rw [h3]; exact hu
    · have h1 := hw ((((List.range len).map D).length + ((List.range (m - len)).map fun j => D (len + j)).length) * P.bytesOf e) (by simp [DataW.weights, ht])
      rw [hb] at h1
      have h2 : len * bytes ≤ (((List.range len).map D).length + ((List.range (m - len)).map fun j => D (len + j)).length) * bytes := Nat.mul_le_mul_right _ (by simp)
      rw [hlen]
      exact Nat.le_trans h2 h1
    · intro x hx
      obtain ⟨i, hi, rfl⟩ := List.mem_map.1 hx
      exact (hf i (List.mem_range.1 hi)).2

/-- The same of a row of fields, from cell o on. -/
def BrF (enc : TypeId × Value → H) (P : Program) (W : World) (fs : List Field) (o tot : Nat) (k : Kd α) (B : α → Prop) : Prop :=
  ∀ (n : Nat) (cs : List Value) (xs : List (DataW H × List MemPlace)), cs.length = tot → xs.length = fs.length →
    (∀ (i : Nat) (f : Field), fs[i]? = some f → DataW.trod enc P W 0 (fun _ => true) true n f.type ((cs.drop f.offset).take (P.cellsOf f.type)) = xs[i]?) →
    (∀ q ∈ DataW.weightsEach P (fs.map (·.type)) (xs.map (·.1)), q ≤ reachBytes) → ∃ x, k.K W x (cs.drop o) ∧ B x

theorem brF_last {f : Field} {o tot : Nat} {k : Kd α} {B : α → Prop} (ho : f.offset = o) (hs : P.cellsOf f.type = k.sz) (hc : o + k.sz = tot) (hk : Br enc P W f.type k B) : BrF enc P W [f] o tot k B := by
  intro n cs xs hl hx hr hw
  match xs, hx with
  | [y], _ =>
    have h := hr 0 f rfl
    have e : (cs.drop f.offset).take (P.cellsOf f.type) = cs.drop o := by
      rw [ho, List.take_of_length_le]
      rw [List.length_drop]; omega
    rw [e] at h
    exact hk n _ y.1 y.2 (by simpa using h) (fun q hq => hw q (by simp [DataW.weightsEach]; exact hq))

theorem brF_cons {f : Field} {fs : List Field} {o o' tot : Nat} {k : Kd α} {kr : Kd β} {B : α → Prop} {B' : β → Prop} (ho : f.offset = o) (hs : P.cellsOf f.type = k.sz) (ho' : o + k.sz = o')
    (hk : Br enc P W f.type k B) (hr : BrF enc P W fs o' tot kr B') : BrF enc P W (f :: fs) o tot (Kd.pair k kr) (fun x => B x.1 ∧ B' x.2) := by
  intro n cs xs hl hx ht hw
  match xs, hx with
  | y :: ys, hx =>
    have h := ht 0 f rfl
    rw [ho, hs] at h
    obtain ⟨x, hx1, hx2⟩ := hk n _ y.1 y.2 (by simpa using h) (fun q hq => hw q (by simp only [List.map_cons, DataW.weightsEach, List.mem_append]; exact Or.inl hq))
    obtain ⟨z, hz1, hz2⟩ := hr n cs ys hl (by simpa using hx) (fun i g hg => by simpa using ht (i + 1) g (by simpa using hg)) (fun q hq => hw q (by simp only [List.map_cons, DataW.weightsEach, List.mem_append]; exact Or.inr hq))
    refine ⟨(x, z), ⟨_, _, ?_, hx1, hz1⟩, hx2, hz2⟩
    rw [← ho', ← List.drop_drop, List.take_append_drop]

theorem br_struct {t : TypeId} {fs : Array Field} {tot : Nat} {k : Kd α} {B : α → Prop} (ht : P.underlying t = some (.struct fs)) (hc : P.cellsOf t = tot) (hk : BrF enc P W fs.toList 0 tot k B) : Br enc P W t k B := by
  intro fuel cs dat ps h hw
  obtain ⟨xs, n, _, hx, hl, hlen, hf⟩ := DataW.trod_struct ht h
  have hd : dat = .agg (xs.map (·.1)) := (Prod.mk.inj hx).1
  subst hd
  obtain ⟨x, hx1, hx2⟩ := hk n cs xs (hl.trans hc) (by simpa using hlen) (fun i f hi => hf i f (by simpa using hi)) (fun q hq => hw q (by simpa [DataW.weights, ht] using hq))
  exact ⟨x, by simpa using hx1, hx2⟩

theorem br_iso {t : TypeId} {k : Kd α} {B : α → Prop} (g : β → α) (g' : α → β) (hg : ∀ a, g (g' a) = a) (hk : Br enc P W t k B) : Br enc P W t (Kd.iso k g) (fun x => B (g x)) := by
  intro fuel cs dat ps h hw
  obtain ⟨x, h1, h2⟩ := hk fuel cs dat ps h hw
  exact ⟨g' x, by show k.K W (g (g' x)) cs; rw [hg]; exact h1, by show B (g (g' x)); rw [hg]; exact h2⟩

theorem br_imp {t : TypeId} {k : Kd α} {B B' : α → Prop} (hk : Br enc P W t k B) (hB : ∀ x, B x → B' x) : Br enc P W t k B' := by
  intro fuel cs dat ps h hw
  obtain ⟨x, h1, h2⟩ := hk fuel cs dat ps h hw
  exact ⟨x, h1, hB x h2⟩

/-- A parameter that is a struct by value: its cells. -/
theorem br_agg {t : TypeId} {fs : Array Field} {k : Kd α} {B : α → Prop} {v : Value} {d : DataW H} {ps : List MemPlace} {b0 : Nat} {r : Reach} {ts : List TypeId} {ds : List (DataW H)} {j : Nat}
    (hk : Br enc P W t k B) (ht : P.underlying t = some (.struct fs)) (hv : Value.okWide P W r b0 t v) (h : DataW.Trod enc P W 0 (fun _ => true) true t v d ps)
    (hsz : (DataW.weightsEach P ts ds).all (· ≤ reachBytes) = true) (hj : ts[j]? = some t) (hd : ds[j]? = some d) : ∃ cs x, v = .agg ⟨cs⟩ ∧ k.K W x cs ∧ B x := by
  obtain ⟨cs, rfl, _⟩ := okWide_struct ht hv
  obtain ⟨fuel, hf⟩ := h
  obtain ⟨x, h1, h2⟩ := hk fuel _ d ps hf (fun n hn => by simpa using List.all_eq_true.1 hsz n (DataW.weights_mem_each hj hd n hn))
  exact ⟨cs.toList, x, rfl, by simpa [Value.cells] using h1, h2⟩
/-- A parameter that is a slice. -/
theorem br_row {t e : TypeId} {k : Kd α} {B : List α → Prop} {v : Value} {d : DataW H} {ps : List MemPlace} {b0 : Nat} {r : Reach} {ts : List TypeId} {ds : List (DataW H)} {j : Nat}
    (hk : Br enc P W t (Kd.slice e k) B) (ht : P.underlying t = some (.slice e)) (hv : Value.okWide P W r b0 t v) (h : DataW.Trod enc P W 0 (fun _ => true) true t v d ps)
    (hsz : (DataW.weightsEach P ts ds).all (· ≤ reachBytes) = true) (hj : ts[j]? = some t) (hd : ds[j]? = some d) : ∃ xs A c, v = .slice A xs.length c ∧ xs.length ≤ c ∧ k.C W A xs.length xs ∧ B xs := by
  obtain ⟨a, len, cap, rfl⟩ := okWide_slice ht hv
  obtain ⟨fuel, hf⟩ := h
  obtain ⟨xs, ⟨A, c, h1, h2, h3⟩, hB⟩ := hk fuel _ d ps hf (fun n hn => by simpa using List.all_eq_true.1 hsz n (DataW.weights_mem_each hj hd n hn))
  exact ⟨xs, A, c, by simpa [Value.cells] using h1, h2, h3, hB⟩
end
end Go.Proofs.Ytjajfbgijailmaa.Br
