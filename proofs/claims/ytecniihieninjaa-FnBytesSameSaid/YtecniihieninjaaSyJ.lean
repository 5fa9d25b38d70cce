/- An evaluator of the model's code over symbolic values, and its soundness: part 8. No condition. -/
import Derived.Test.YtecniihieninjaaSyI
set_option linter.unusedVariables false
set_option linter.unusedSimpArgs false
namespace Go.Sx
open Go.RowKit
variable {T : Nat → Type} {U : Univ T} {P : Program}

section
variable {w0 : Frm} {M0 : Mem} {nt nid : Nat} {s : St T} {a : Act} {w : World} {ρ : Nat → Option Value} {M : Mem} {c : Step T} {o : Oper} {Tb : Calls_ T} {α : Type 1} {r : α}

/-- A new row. -/
theorem Post.newRow (R : Rl U w0 M0 nt s nid a w ρ M) {t n : Nat} {xs : List (T t)} {cl : List Value} (hn : xs.length = n) (hm : n ≤ maxLen) (hl : cl.length = n * U.sz t) (hc : CR U ρ M (xs.flatMap (U.enc t)) cl) :
    Post U w0 M0 s nid ρ M (.own nid) [(nid, .arr t xs)] (.slice (some ⟨w.heap.size, 0, none⟩) n n) (w.alloc (.cells cl.toArray t)) := by
  refine Post.new R (v := .slice (some ⟨w.heap.size, 0, none⟩) n n) ((Below.refl _ w).alloc (Nat.le_refl _) _) (fun g hg => by simp [blockOf] at hg; omega) (fun ρ' hρ => ?_) (.own _ _ _ _ (by simp [updR]))
  refine ⟨cl, ?_, hc.mono hρ (.refl _), fun g hg => ?_, fun g hg => ?_⟩
  · have := World.ownsRow_lit (e := t) (size := U.sz t) (base := 0) w cl.toArray n (Nat.zero_le _) hm (by simpa using hl)
    rw [hn]
    simpa using this
  · simp [Value.ownBlock] at hg
    subst hg
    exact M_fresh R (Nat.le_refl _)
  · simp [Value.ownBlock] at hg
    subst hg
    exact .inl R.mr.fr.size

theorem rep_get {α : Type} (l : List α) : ∀ (n j : Nat), ((List.replicate n l).flatten)[j]? = if j < n * l.length then l[j % l.length]? else none
  | 0, j => by simp
  | n + 1, j => by
    rw [List.replicate_succ, List.flatten_cons, List.getElem?_append, rep_get l n]
    by_cases h : j < l.length
    · rw [if_pos h, Nat.mod_eq_of_lt h, if_pos (by rw [Nat.succ_mul]; omega)]
    · rw [if_neg h]
      have e : (j - l.length) % l.length = j % l.length := (Nat.mod_eq_sub_mod (by omega)).symm
      rw [e]
      by_cases h2 : j < (n + 1) * l.length
      · rw [if_pos h2, if_pos (by rw [Nat.succ_mul] at h2; omega)]
      · rw [if_neg h2, if_neg (by rw [Nat.succ_mul] at h2; omega)]

theorem made_list (z : Array Value) (n : Nat) : (madeCells z (n * z.size)).toList = (List.replicate n z.toList).flatten := by
  apply List.ext_getElem?
  intro j
  rw [rep_get]
  by_cases h : j < n * z.size
  · have hz : 0 < z.size := by
      rcases Nat.eq_zero_or_pos z.size with e | e
      · rw [e] at h; simp at h
      · exact e
    have hm := Nat.mod_lt j hz
    simp [madeCells, h, hm]
  · simp [madeCells, h]

theorem CR.rep {cs : List (SV T)} {vs : List Value} (h : CR U ρ M cs vs) : ∀ n, CR U ρ M (List.replicate n cs).flatten (List.replicate n vs).flatten
  | 0 => .nil
  | n + 1 => by
    rw [List.replicate_succ, List.replicate_succ, List.flatten_cons, List.flatten_cons]
    exact h.append (CR.rep h n)

theorem sameOpd_run {l d : Operand} (h : sameOpd l d = true) : ∃ n k k', (a.eval l = a.eval d) ∨ (a.eval l = .int k n ∧ a.eval d = .int k' n) := by
  unfold sameOpd at h
  split at h
  · have := beq_eq h
    subst this
    exact ⟨0, .i64, .i64, .inl rfl⟩
  · rename_i k n k' n'
    have := of_decide_eq_true h
    subst this
    exact ⟨n, k, k', .inr ⟨rfl, rfl⟩⟩
  · cases h

theorem good_makeSlice (hU : UOk U) (R : Rl U w0 M0 nt s nid a w ρ M) {t : Nat} {l d : Operand} (ho : o.op = .makeSlice t l d)
    (h : (opQ P U Tb nid (.makeSlice t l d)).run s = some c) : Good P U w0 M0 s nid ρ M a w o c := by
  simp only [opQ] at h
  split at h
  · simp [RQ.run] at h
  · rename_i hsame
    obtain ⟨sl, hl, h⟩ := rdO_run h
    have vl := hl.vr R
    split at h
    · rename_i k n
      obtain ⟨te, i, hu, hi, hsz, h⟩ := elemQ_run h
      obtain ⟨zc, hz, h⟩ := optQ_run h
      obtain ⟨e, he, h⟩ := optQ_run h
      simp only [RQ.run, Option.some.injEq] at h
      subst h
      intro hc _ _
      obtain ⟨h0, h1, h2⟩ : 0 ≤ n ∧ (byOf P te : Int) * n ≤ 140737488355328 ∧ n ≤ 140737488355328 := by simpa [Step.if_] using hc
      generalize hle : a.eval l = lv at vl
      cases vl
      have hde : ∃ k', a.eval d = .int k' n := by
        obtain ⟨n', k1, k2, h | ⟨h, h'⟩⟩ := sameOpd_run (a := a) hsame
        · exact ⟨k, h ▸ hle⟩
        · rw [hle] at h
          cases h
          exact ⟨k2, h'⟩
      obtain ⟨k', hde⟩ := hde
      obtain ⟨i', z, hi', hz', rfl, h1z⟩ := zero_run hz
      rw [hi] at hi'
      cases hi'
      have hce : CR U ρ M (U.enc te e) z.cells.toList := hU.dec te _ e he ρ M _ (CR.map_v _ h1z)
      have hzs : z.cells.size = U.sz te := by
        have := hce.len
        rw [hU.len] at this
        simpa using this.symm
      have hn : n = (n.toNat : Int) := by omega
      refine .val (v := .slice (some ⟨w.heap.size, 0, none⟩) n.toNat n.toNat) (w' := w.alloc (.cells (madeCells z.cells (n.toNat * i.size)) te)) ?_ ?_
      · simp only [execOp, ho, hle, hde]
        exact run_v (run_make (P := P) w t te i z hu hi hz' k k' n n h0 (Int.le_refl _) (by rw [byOf_eq hi] at h1; omega) (by omega))
      · have e1 : madeCells z.cells (n.toNat * i.size) = ((List.replicate n.toNat z.cells.toList).flatten).toArray := by
          apply Array.ext'
          rw [hsz, ← hzs, made_list]
        rw [e1]
        refine Post.newRow R (by simp) (by simp only [maxLen]; omega) ?_ ?_
        · simp [hzs]
        · have := hce.rep n.toNat
          rw [show (List.replicate n.toNat e).flatMap (U.enc te) = (List.replicate n.toNat (U.enc te e)).flatten by simp [List.flatMap_replicate]]
          exact this
    · simp [RQ.run] at h

def PtsR : List (Nat × Operand) → St T → List (Nat × SV T) → Prop
  | [], _, l => l = []
  | (i, x) :: r, s, l => ∃ y l', l = (i, y) :: l' ∧ OpdR x s y ∧ PtsR r s l'

theorem rdP_run : ∀ {xs : List (Nat × Operand)} {k : List (Nat × SV T) → RQ T α}, (rdP xs k).run s = some r → ∃ l, PtsR xs s l ∧ (k l).run s = some r
  | [], k, h => ⟨[], rfl, h⟩
  | (i, x) :: xs, k, h => by
    obtain ⟨y, hy, h⟩ := rdO_run h
    obtain ⟨l, hl, h⟩ := rdP_run h
    exact ⟨(i, y) :: l, ⟨y, l, rfl, hy, hl⟩, h⟩

theorem setCells (cells : Array Value) : ∀ (vs : List Value) (off k : Nat), off + k + vs.length ≤ cells.size →
    ((vs.zipIdx k).foldl (fun cs (x : Value × Nat) => cs.setIfInBounds (off + x.2) x.1) cells).toList = cells.toList.take (off + k) ++ vs ++ cells.toList.drop (off + k + vs.length)
  | [], off, k, _ => by simp
  | v :: vs, off, k, h => by
    simp only [List.zipIdx_cons, List.foldl_cons]
    simp only [List.length_cons] at h
    rw [setCells (cells.setIfInBounds (off + k) v) vs off (k + 1) (by simp; omega)]
    apply List.ext_getElem?
    intro j
    simp only [Array.toList_setIfInBounds, List.getElem?_append, List.length_append, List.length_take, List.length_set, Array.length_toList, List.getElem?_take, List.getElem?_drop, List.getElem?_set, List.length_cons]
    have e0 : min (off + (k + 1)) cells.size = off + k + 1 := by omega
    have e1 : min (off + k) cells.size = off + k := by omega
    rw [e0, e1]
    by_cases c1 : j < off + k
    · simp [show j < off + k + 1 + vs.length by omega, show j < off + k + 1 by omega, show ¬ off + k = j by omega, show j < off + k + (vs.length + 1) by omega, c1, show j < off + (k + 1) by omega]
    · by_cases c2 : j = off + k
      · subst c2
        simp [show off + k < off + k + 1 + vs.length by omega, show off + k < cells.size by omega, show off + k < off + k + (vs.length + 1) by omega, show off + k < off + (k + 1) by omega]
      · by_cases c3 : j < off + k + 1 + vs.length
        · have c4 : ¬ j < off + k + 1 := by omega
          have c5 : j < off + k + (vs.length + 1) := by omega
          rw [if_pos c3, if_neg c4, if_pos c5, if_neg c1, List.getElem?_cons]
          have : j - (off + k) ≠ 0 := by omega
          rw [if_neg this]
          congr 1
        · have c5 : ¬ j < off + k + (vs.length + 1) := by omega
          rw [if_neg c3, if_neg c5]
          have e2 : off + (k + 1) + vs.length + (j - (off + k + 1 + vs.length)) = off + k + (vs.length + 1) + (j - (off + k + (vs.length + 1))) := by omega
          rw [e2]
          have : ¬ off + k = off + k + (vs.length + 1) + (j - (off + k + (vs.length + 1))) := by omega
          rw [if_neg this]

theorem fill_run (R : Rl U w0 M0 nt s nid a w ρ M) {places : List (Nat × Nat)} :
    ∀ {xs : List (Nat × Operand)} {l : List (Nat × SV T)} {cs cs' : List (SV T)} {cells : Array Value}, PtsR xs s l → CR U ρ M cs cells.toList → fillC places l cs = some cs' →
      ∃ cells', Instr.fill (places.toArray[·]?) cells (xs.map fun (i, x) => (i, a.eval x)) = some cells' ∧ CR U ρ M cs' cells'.toList
  | [], l, cs, cs', cells, h, hc, hf => by
    simp only [PtsR] at h
    subst h
    simp only [fillC, Option.some.injEq] at hf
    subst hf
    exact ⟨cells, rfl, hc⟩
  | (i, x) :: xs, l, cs, cs', cells, h, hc, hf => by
    obtain ⟨y, l', rfl, hy, hl⟩ := h
    simp only [fillC] at hf
    split at hf
    · rename_i off n vs hfl hvs
      split at hf
      · cases hf
      · rename_i hb
        have hlen : n = vs.length := beq_eq hb
        split at hf
        · cases hf
        · rename_i cs1 hsp
          have hv := (hy.vr R).cells? hvs
          unfold splice at hsp
          split at hsp
          · rename_i hle
            have hle' : off + vs.length ≤ cs.length := Nat.le_of_ble_eq_true hle
            simp only [Option.some.injEq] at hsp
            subst hsp
            have hcl := hc.len
            have hvl := hv.len
            simp only [Array.length_toList] at hcl hvl
            obtain ⟨cells', hr, hc'⟩ := fill_run R (places := places) (cells := (((a.eval x).cells.toList.zipIdx 0).foldl (fun cs (x : Value × Nat) => cs.setIfInBounds (off + x.2) x.1) cells)) hl (by
              rw [setCells cells _ off 0 (by simp; omega)]
              simpa using hc.splice hv off) hf
            refine ⟨cells', ?_, hc'⟩
            simp only [List.map_cons, Instr.fill, List.getElem?_toArray, hfl]
            rw [if_neg (by simp; omega)]
            simp only [List.getElem?_toArray] at hr
            rw [← hr]
            congr 1
            rw [← Array.foldl_toList]
            simp
          · cases hsp
    · cases hf

theorem good_build (R : Rl U w0 M0 nt s nid a w ρ M) {t : Nat} {parts : Array (Nat × Operand)} (ho : o.op = .build t parts)
    (h : (opQ P U Tb nid (.build t parts)).run s = some c) : Good P U w0 M0 s nid ρ M a w o c := by
  simp only [opQ] at h
  obtain ⟨l, hl, h⟩ := rdP_run h
  obtain ⟨places, hp, h⟩ := optQ_run h
  obtain ⟨zc, hz, h⟩ := optQ_run h
  obtain ⟨cs, hcs, h⟩ := optQ_run h
  simp only [RQ.run, Option.some.injEq] at h
  subst h
  obtain ⟨i, z, hi, hz', rfl, h1z⟩ := zero_run hz
  obtain ⟨cells, hf, hc⟩ := fill_run R hl (cells := z.cells) (CR.map_v _ h1z) hcs
  unfold placesOf at hp
  split at hp
  · rename_i fields hu
    refine .now R (v := .agg cells) ?_ (by simpa using hc.agg)
    simp only [execOp, ho]
    refine run_v (run_build (P := P) w t _ cells ?_)
    unfold Program.built
    simp only [hi, hu, hz', hp]
    simpa using hf
  · cases hp

/-- Parts, told by their values. -/
def PtsV (U : Univ T) (ρ : Nat → Option Value) (M : Mem) (a : Act) : List (Nat × Operand) → List (Nat × SV T) → Prop
  | [], l => l = []
  | (i, x) :: r, l => ∃ y l', l = (i, y) :: l' ∧ VR U ρ M y (a.eval x) ∧ PtsV U ρ M a r l'

theorem fillS_run (hU : UOk U) {te : Nat} :
    ∀ {xs : List (Nat × Operand)} {l : List (Nat × SV T)} {k : Nat} {es : List (T te)} {cells : Array Value}, PtsV U ρ M a xs l → eltsOf U te l k = some es → cells.size = (k + l.length) * U.sz te →
      ∃ cl : List Value, CR U ρ M (es.flatMap (U.enc te)) cl ∧ es.length = l.length ∧
        (Instr.fill (fun i => some (i * U.sz te, U.sz te)) cells (xs.map fun (i, x) => (i, a.eval x))) = some (cells.toList.take (k * U.sz te) ++ cl).toArray
  | [], l, k, es, cells, h, he, hs => by
    simp only [PtsV] at h
    subst h
    simp only [eltsOf, Option.some.injEq] at he
    subst he
    refine ⟨[], .nil, rfl, ?_⟩
    simp only [List.map_nil, Instr.fill, List.append_nil, Option.some.injEq]
    rw [List.take_of_length_le (by simpa using Nat.le_of_eq hs)]
  | (i, x) :: xs, l, k, es, cells, h, he, hs => by
    obtain ⟨y, l', rfl, hy, hl⟩ := h
    simp only [eltsOf] at he
    split at he
    · cases he
    · rename_i hb
      have hik : i = k := beq_eq hb
      subst hik
      split at he
      · cases he
      · rename_i cs hcs
        split at he
        · cases he
        · rename_i e hd
          split at he
          · cases he
          · rename_i es' hes
            simp only [Option.some.injEq] at he
            subst he
            have hv := hU.dec te _ _ hd ρ M _ (hy.cells? hcs)
            have hvl : (a.eval x).cells.size = U.sz te := by
              have := hv.len
              rw [hU.len] at this
              simpa using this.symm
            have hs' : cells.size = (i + 1 + l'.length) * U.sz te := by rw [hs]; congr 1; simp; omega
            have hle : i * U.sz te + U.sz te ≤ cells.size := by
              rw [hs', ← Nat.succ_mul]
              exact Nat.mul_le_mul_right _ (by omega)
            have hset := setCells cells (a.eval x).cells.toList (i * U.sz te) 0 (by simp [hvl]; omega)
            obtain ⟨cl, hc, hlen, hf⟩ := fillS_run hU (k := i + 1) (cells := (((a.eval x).cells.toList.zipIdx 0).foldl (fun cs (x : Value × Nat) => cs.setIfInBounds (i * U.sz te + x.2) x.1) cells)) hl hes (by
              have e1 : ∀ A : Array Value, A.size = A.toList.length := fun A => by simp
              rw [e1, hset]
              simp only [List.length_append, List.length_take, List.length_drop, Array.length_toList, hvl]
              omega)
            refine ⟨(a.eval x).cells.toList ++ cl, by rw [List.flatMap_cons]; exact hv.append hc, by simp [hlen], ?_⟩
            simp only [List.map_cons, Instr.fill]
            rw [if_neg (by simp [hvl]; omega)]
            have e2 : (((a.eval x).cells.toList.zipIdx 0).foldl (fun cs (x : Value × Nat) => cs.setIfInBounds (i * U.sz te + x.2) x.1) cells) = ((a.eval x).cells.zipIdx.foldl (fun cs x => cs.setIfInBounds (i * U.sz te + x.2) x.1) cells) := by
              rw [← Array.foldl_toList]
              simp
            rw [e2] at hf hset
            rw [hf, hset]
            have e3 : (i + 1) * U.sz te = i * U.sz te + U.sz te := Nat.succ_mul _ _
            have e5 : ∀ D : List Value, (cells.toList.take (i * U.sz te) ++ (a.eval x).cells.toList ++ D).take ((i + 1) * U.sz te) = cells.toList.take (i * U.sz te) ++ (a.eval x).cells.toList := fun D =>
              List.take_left' (by rw [e3]; simp only [List.length_append, List.length_take, Array.length_toList, hvl]; omega)
            simp only [Nat.add_zero]
            rw [e5, List.append_assoc]

theorem PtsR.len : ∀ {xs : List (Nat × Operand)} {l : List (Nat × SV T)}, PtsR xs s l → l.length = xs.length
  | [], l, h => by simp only [PtsR] at h; subst h; rfl
  | (i, x) :: xs, l, h => by obtain ⟨y, l', rfl, _, hl⟩ := h; simp [hl.len]

end
end Go.Sx
