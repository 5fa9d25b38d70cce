/- An evaluator of the model's code over symbolic values, and its soundness: part 26. No condition. -/
import Derived.Test.YtecniihieninjaaSyS
import Derived.Deep.Slices
import Derived.SizedLaws
import Derived.WideShapes
set_option linter.unusedVariables false
set_option linter.unusedSimpArgs false
namespace Go.Sx
open Go.ChangeShapes Go.WideShapes Go.RowKit Go.Deep
section
variable {T : Nat → Type} {U : Univ T} {H : Type} {enc : TypeId × Value → H} {P : Program} {W : World} {α β : Type}

def memOf (W : World) : Mem := ⟨fun b o => W.cell? ⟨b, o, none⟩, none, fun _ => none⟩
def noR : Nat → Option Value := fun _ => none

/-- What reads at type t in W is told by E, and B holds of it. -/
def Br (U : Univ T) (enc : TypeId × Value → H) (P : Program) (W : World) (t : TypeId) (E : α → List (SV T)) (B : α → Prop) : Prop :=
  ∀ (fuel : Nat) (cs : List Value) (dat : DataW H) (ps : List MemPlace), DataW.trod enc P W 0 (fun _ => true) true fuel t cs = some (dat, ps) →
    (∀ n ∈ dat.weights P t, n ≤ reachBytes) → ∃ x, CR U noR (memOf W) (E x) cs ∧ B x

theorem br_int {t : TypeId} {ik : IntKind} (ht : P.underlying t = some (.int ik)) : Br U enc P W t (fun x => [.v (.int ik x)]) (fun x => (Lit.int ik x).wf = true) := by
  intro fuel cs dat ps h _
  obtain ⟨n, rfl, _, hw⟩ := DataW.trod_int ht h
  exact ⟨n, .cons (.v _) rfl .nil, hw⟩
theorem br_bool {t : TypeId} (ht : P.underlying t = some .bool) : Br U enc P W t (fun x => [.v (.bool x)]) (fun _ => True) := by
  intro fuel cs dat ps h _
  obtain ⟨n, rfl, _⟩ := DataW.trod_bool ht h
  exact ⟨n, .cons (.v _) rfl .nil, trivial⟩
theorem br_string {t : TypeId} (ht : P.underlying t = some .string) : Br U enc P W t (fun x => [.v (.string x)]) (fun s => s.size ≤ 140737488351232) := by
  intro fuel cs dat ps h hw
  obtain ⟨s, rfl, hx, _⟩ := DataW.trod_string ht h
  have hd : dat = .lit (.string s.data.toList) := (Prod.mk.inj hx).1
  subst hd
  refine ⟨s, .cons (.v _) rfl .nil, ?_⟩
  have h1 := hw s.data.toList.length (by simp [DataW.weights])
  rw [Array.length_toList] at h1
  exact h1

theorem weights_all_mem {e : TypeId} : ∀ {l : List (DataW H)} {d : DataW H}, d ∈ l → ∀ n ∈ d.weights P e, n ∈ DataW.weightsAll P e l
  | d0 :: l, d, hd, n, hn => by
    rcases List.mem_cons.1 hd with rfl | hd
    · simp only [DataW.weightsAll, List.mem_append]; exact Or.inl hn
    · simp only [DataW.weightsAll, List.mem_append]; exact Or.inr (weights_all_mem hd n hn)

theorem pick_lt {γ : Type} {n : Nat} {d : γ} {p : Nat → γ → Prop} (h : ∀ i, i < n → ∃ x, p i x) : ∃ f : Nat → γ, ∀ i, i < n → p i (f i) :=
  ⟨fun i => if h' : i < n then Classical.choose (h i h') else d, fun i hi => by
    simp only [hi, dif_pos]
    exact Classical.choose_spec (h i hi)⟩

theorem br_slice {t e : TypeId} {B : T e → Prop} (bytes : Nat) (hU : UOk U) (ht : P.underlying t = some (.slice e)) (hs : P.cellsOf e = U.sz e) (h0 : 0 < U.sz e) (hb : P.bytesOf e = bytes)
    (hk : Br U enc P W e (U.enc e) B) : Br U enc P W t (fun xs => [.row e xs]) (fun xs => xs.length * bytes ≤ 140737488351232 ∧ ∀ x ∈ xs, B x) := by
  intro fuel cs dat ps h hw
  rcases open_slice ht h with ⟨rfl, _⟩ | ⟨a, len, cap, m, n, D, Pl, rfl, _, hl, hm, hmm, hx, hel⟩
  · exact ⟨[], .cons (.row _ [] none 0 (fun _ _ => undef) (Nat.le_refl _) (fun _ => ⟨rfl, rfl⟩) (fun a ha => by cases ha) (fun a ha => by cases ha) (fun i hi => by simp at hi) (fun i hi => by simp at hi) (fun _ _ _ a ha => by cases ha)) rfl .nil, by simp, by simp⟩
  · have hd : dat = .slice ((List.range len).map D) ((List.range (m - len)).map fun j => D (len + j)) := (Prod.mk.inj hx).1
    subst hd
    have hm' : m = cap := by simpa using hmm
    obtain ⟨f, hf⟩ := pick_lt (d := (U.dflt e, ([] : List Value))) (n := len) (p := fun i x => (W.cells? 0 (a.add (i * P.cellsOf e)) (P.cellsOf e) = some x.2 ∧ CR U noR (memOf W) (U.enc e x.1) x.2) ∧ B x.1) (fun i hi => by
      obtain ⟨cs', h1, h2⟩ := hel i (by omega)
      obtain ⟨x, hx1, hx2⟩ := hk n cs' (D i) (Pl i) h2 (fun q hq => hw q (by
        simp only [DataW.weights, ht, List.mem_cons, List.mem_append]
        exact Or.inr (Or.inl (weights_all_mem (List.mem_map.2 ⟨i, List.mem_range.2 hi, rfl⟩) q hq))))
      exact ⟨(x, cs'), ⟨h1, hx1⟩, hx2⟩)
    have hlen : ((List.range len).map fun i => (f i).1).length = len := by simp
    have hg : ∀ i (hi : i < ((List.range len).map fun i => (f i).1).length), ((List.range len).map fun i => (f i).1)[i] = (f i).1 := by intro i hi; simp
    have hcell : ∀ i, i < len → ∀ j, j < (U.enc e (f i).1).length → W.cell? ((a.add (i * U.sz e)).add j) = (f i).2[j]? := by
      intro i hi j hj
      obtain ⟨⟨h1, h2⟩, _⟩ := hf i hi
      obtain ⟨_, hlen', hc⟩ := World.cells?_some h1
      have := hc j (by rw [hs, ← hU.len e (f i).1]; exact hj)
      rw [hs] at this
      exact this
    have hsp : len ≠ 0 → a.spot = none := by
      intro hne
      have hj : 0 < (U.enc e (f 0).1).length := by rw [hU.len]; exact h0
      have h1 := hcell 0 (by omega) 0 hj
      obtain ⟨⟨_, h2⟩, _⟩ := hf 0 (by omega)
      have h3 : 0 < (f 0).2.length := h2.len ▸ hj
      rw [List.getElem?_eq_getElem h3] at h1
      cases hsp : a.spot with
      | none => rfl
      | some s =>
        exfalso
        unfold World.cell? at h1
        split at h1
        · simp [Addr.add, hsp] at h1
        · cases h1
    refine ⟨(List.range len).map fun i => (f i).1, .cons ?_ rfl .nil, ?_, ?_⟩
    · have key : VR U noR (memOf W) (.row e ((List.range len).map fun i => (f i).1)) (.slice (some a) ((List.range len).map fun i => (f i).1).length cap) := by
        refine .row e _ (some a) cap (fun i j => (f i).2.getD j undef) (by rw [hlen]; exact hl) (fun h => by cases h) (fun ad ha hne => ?_) (fun ad ha i hi j hj => ?_) (fun i hi j hj => ?_) (fun i hi j hj => ?_) (fun B hB => by cases hB)
        · cases ha
          exact hsp (by intro e; subst e; simp at hne)
        · cases ha
          rw [hg i hi] at hj
          have hi' : i < len := by rwa [hlen] at hi
          have h1 := hcell i hi' j hj
          obtain ⟨⟨_, h2⟩, _⟩ := hf i hi'
          have h3 : j < (f i).2.length := h2.len ▸ hj
          show W.cell? ⟨a.block, a.off + i * U.sz e + j, none⟩ = _
          rw [List.getD_eq_getElem?_getD, List.getElem?_eq_getElem h3]
          rw [List.getElem?_eq_getElem h3] at h1
          rw [Option.getD_some]
          rw [addr_eta (hsp (by omega)), add_at, add_at] at h1
          exact h1
        · rw [hg i hi] at hj
          have hi' : i < len := by rwa [hlen] at hi
          obtain ⟨⟨_, h2⟩, _⟩ := hf i hi'
          have h3 : j < (f i).2.length := h2.len ▸ hj
          rw [List.getD_eq_getElem?_getD, List.getElem?_eq_getElem h3]
          exact h2.one _ (List.getElem_mem h3)
        · have hi' : i < len := by rwa [hlen] at hi
          obtain ⟨⟨_, h2⟩, _⟩ := hf i hi'
          have e1 := hg i hi
          have hj' : j < (U.enc e (f i).1).length := by rw [← e1]; exact hj
          have h3 : j < (f i).2.length := h2.len ▸ hj'
          rw [List.getD_eq_getElem?_getD, List.getElem?_eq_getElem h3]
          have := h2.at_ j hj' h3
          simp only [hg]
          exact this
      rw [hlen] at key
      exact key
    · have h1 := hw ((((List.range len).map D).length + ((List.range (m - len)).map fun j => D (len + j)).length) * P.bytesOf e) (by simp [DataW.weights, ht])
      rw [hb] at h1
      have h2 : len * bytes ≤ (((List.range len).map D).length + ((List.range (m - len)).map fun j => D (len + j)).length) * bytes := Nat.mul_le_mul_right _ (by simp)
      rw [hlen]
      exact Nat.le_trans h2 h1
    · intro x hx
      obtain ⟨i, hi, rfl⟩ := List.mem_map.1 hx
      exact (hf i (List.mem_range.1 hi)).2

/-- The same of a row of fields, from cell o on. -/
def BrF (U : Univ T) (enc : TypeId × Value → H) (P : Program) (W : World) (fs : List Field) (o tot : Nat) (E : α → List (SV T)) (B : α → Prop) : Prop :=
  ∀ (n : Nat) (cs : List Value) (xs : List (DataW H × List MemPlace)), cs.length = tot → xs.length = fs.length →
    (∀ (i : Nat) (f : Field), fs[i]? = some f → DataW.trod enc P W 0 (fun _ => true) true n f.type ((cs.drop f.offset).take (P.cellsOf f.type)) = xs[i]?) →
    (∀ q ∈ DataW.weightsEach P (fs.map (·.type)) (xs.map (·.1)), q ≤ reachBytes) → ∃ x, CR U noR (memOf W) (E x) (cs.drop o) ∧ B x

theorem brF_last {f : Field} {o tot : Nat} {E : α → List (SV T)} {B : α → Prop} (ho : f.offset = o) (hc : o + P.cellsOf f.type = tot) (hk : Br U enc P W f.type E B) : BrF U enc P W [f] o tot E B := by
  intro n cs xs hl hx hr hw
  match xs, hx with
  | [y], _ =>
    have h := hr 0 f rfl
    have e : (cs.drop f.offset).take (P.cellsOf f.type) = cs.drop o := by
      rw [ho, List.take_of_length_le]
      rw [List.length_drop]; omega
    rw [e] at h
    exact hk n _ y.1 y.2 (by simpa using h) (fun q hq => hw q (by simp [DataW.weightsEach]; exact hq))

theorem brF_cons {f : Field} {fs : List Field} {o o' tot : Nat} {E : α → List (SV T)} {E' : β → List (SV T)} {B : α → Prop} {B' : β → Prop} (ho : f.offset = o) (ho' : o + P.cellsOf f.type = o')
    (hk : Br U enc P W f.type E B) (hr : BrF U enc P W fs o' tot E' B') : BrF U enc P W (f :: fs) o tot (fun x : α × β => E x.1 ++ E' x.2) (fun x : α × β => B x.1 ∧ B' x.2) := by
  intro n cs xs hl hx ht hw
  match xs, hx with
  | y :: ys, hx =>
    have h := ht 0 f rfl
    rw [ho] at h
    obtain ⟨x, hx1, hx2⟩ := hk n _ y.1 y.2 (by simpa using h) (fun q hq => hw q (by simp only [List.map_cons, DataW.weightsEach, List.mem_append]; exact Or.inl hq))
    obtain ⟨z, hz1, hz2⟩ := hr n cs ys hl (by simpa using hx) (fun i g hg => by simpa using ht (i + 1) g (by simpa using hg)) (fun q hq => hw q (by simp only [List.map_cons, DataW.weightsEach, List.mem_append]; exact Or.inr hq))
    refine ⟨(x, z), ?_, hx2, hz2⟩
    have := hx1.append hz1
    rw [← ho', ← List.drop_drop, List.take_append_drop] at this
    exact this

theorem br_struct {t : TypeId} {fs : Array Field} {tot : Nat} {E : α → List (SV T)} {B : α → Prop} (ht : P.underlying t = some (.struct fs)) (hc : P.cellsOf t = tot) (hk : BrF U enc P W fs.toList 0 tot E B) : Br U enc P W t E B := by
  intro fuel cs dat ps h hw
  obtain ⟨xs, n, _, hx, hl, hlen, hf⟩ := DataW.trod_struct ht h
  have hd : dat = .agg (xs.map (·.1)) := (Prod.mk.inj hx).1
  subst hd
  obtain ⟨x, hx1, hx2⟩ := hk n cs xs (hl.trans hc) (by simpa using hlen) (fun i f hi => hf i f (by simpa using hi)) (fun q hq => hw q (by simpa [DataW.weights, ht] using hq))
  exact ⟨x, by simpa using hx1, hx2⟩

theorem br_iso {t : TypeId} {E : α → List (SV T)} {B : α → Prop} {E' : β → List (SV T)} {B' : β → Prop} (g : α → β) (hk : Br U enc P W t E B) (hE : ∀ a, E' (g a) = E a) (hB : ∀ a, B a → B' (g a)) : Br U enc P W t E' B' := by
  intro fuel cs dat ps h hw
  obtain ⟨x, h1, h2⟩ := hk fuel cs dat ps h hw
  exact ⟨g x, by rw [hE]; exact h1, hB x h2⟩

/-- A parameter that is a struct by value. -/
theorem br_agg {t : TypeId} {fs : Array Field} {E : α → List (SV T)} {B : α → Prop} {v : Value} {d : DataW H} {ps : List MemPlace} {b0 : Nat} {r : Go.Reach} {ts : List TypeId} {ds : List (DataW H)} {j : Nat}
    (hk : Br U enc P W t E B) (ht : P.underlying t = some (.struct fs)) (hv : Value.okWide P W r b0 t v) (h : DataW.Trod enc P W 0 (fun _ => true) true t v d ps)
    (hsz : (DataW.weightsEach P ts ds).all (· ≤ reachBytes) = true) (hj : ts[j]? = some t) (hd : ds[j]? = some d) : ∃ x, VR U noR (memOf W) (.agg (E x)) v ∧ B x := by
  obtain ⟨cs, rfl, _⟩ := okWide_struct ht hv
  obtain ⟨fuel, hf⟩ := h
  obtain ⟨x, h1, h2⟩ := hk fuel _ d ps hf (fun n hn => by simpa using List.all_eq_true.1 hsz n (DataW.weights_mem_each hj hd n hn))
  refine ⟨x, ?_, h2⟩
  have := h1.agg
  simpa [Value.cells] using this
/-- A parameter that is a slice. -/
theorem br_row {t e : TypeId} {B : List (T e) → Prop} {v : Value} {d : DataW H} {ps : List MemPlace} {b0 : Nat} {r : Go.Reach} {ts : List TypeId} {ds : List (DataW H)} {j : Nat}
    (hk : Br U enc P W t (fun xs => [.row e xs]) B) (ht : P.underlying t = some (.slice e)) (hv : Value.okWide P W r b0 t v) (h : DataW.Trod enc P W 0 (fun _ => true) true t v d ps)
    (hsz : (DataW.weightsEach P ts ds).all (· ≤ reachBytes) = true) (hj : ts[j]? = some t) (hd : ds[j]? = some d) : ∃ xs, VR U noR (memOf W) (.row e xs) v ∧ B xs := by
  obtain ⟨a, len, cap, rfl⟩ := okWide_slice ht hv
  obtain ⟨fuel, hf⟩ := h
  obtain ⟨xs, h1, hB⟩ := hk fuel _ d ps hf (fun n hn => by simpa using List.all_eq_true.1 hsz n (DataW.weights_mem_each hj hd n hn))
  refine ⟨xs, ?_, hB⟩
  have := h1.at_ 0 (by simp) (by simp [Value.cells])
  simpa [Value.cells] using this

theorem VRs.nil {ρ : Nat → Option Value} {M : Mem} : VRs U ρ M [] [] := ⟨rfl, fun i h => by simp at h⟩

/-- A law's call. -/
theorem Snd.bool {A : Type} {n : Nat} {d : Dl U A} {f : A → Option Bool} (h : Snd P U n (Go.Sx.W d f (Dc.bool U))) {l : List (SV T)} {a : A} {r : Bool} {vs : List Value} (ha : d.de l = some a) (hr : f a = some r) (hv : VRs U noR (memOf W) l vs) :
    Calls P n vs.toArray W fun e W' => e = .returned (.bool r) ∧ Below W.heap.size W W' := by
  have := h.run l ⟨Bool, f a, fun r => ((Dc.bool U).en r, [])⟩ r (by unfold Go.Sx.W; rw [ha]) hr W (memOf W) vs (fun _ _ _ h => h) (BpOk.none_ rfl) (fun _ => rfl) hv
  refine this.mono fun e W' ⟨v, ρ', M', he, A⟩ => ⟨?_, A.bel⟩
  have hv : VR U ρ' M' (.v (.bool r)) v := A.vr
  cases hv
  exact he
end
end Go.Sx
