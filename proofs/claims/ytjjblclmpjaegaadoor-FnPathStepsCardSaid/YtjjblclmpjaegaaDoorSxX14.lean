/- The contract of function 14, proved without the evaluator. No condition. -/
import Derived.Test.YtjjblclmpjaegaaDoorProg
import Derived.Shelf.Strings.Split
import Derived.Test.YtjjblclmpjaegaaDoorSxX
import Derived.Test.YtjjblclmpjaegaaDoorSxU
set_option linter.unusedVariables false
set_option linter.unusedSimpArgs false
namespace Go.Sx
open Go.Shelf Go.RowKit Go.Lib Go.Proofs
set_option linter.unusedVariables false
def l146_ren : Go.Shelf.Ren := ⟨fun | 146 => 14 | 221 => 25 | 268 => 31 | 138 => 32 | 143 => 33 | 195 => 35 | 197 => 36 | 218 => 37 | 219 => 38 | 260 => 39 | 217 => 40 | 225 => 41 | 224 => 42 | 267 => 43 | 266 => 44 | 314 => 45 | n => n, fun | 9 => 9 | 31 => 22 | 3 => 3 | 4 => 4 | 0 => 0 | 105 => 52 | 21 => 21 | 5 => 5 | 46 => 55 | 119 => 56 | 139 => 59 | 138 => 58 | 146 => 61 | 51 => 60 | n => n, fun | 1 => 0 | 3 => 1 | 4 => 2 | n => n⟩
theorem l146 : Go.Proofs.Lays.n146 Tryd.prog l146_ren := {
  mixed := by kernel_rfl
  f138 := Tryd.func32.trans (congrArg some (by kernel_rfl))
  f143 := Tryd.func33.trans (congrArg some (by kernel_rfl))
  f146 := Tryd.func14.trans (congrArg some (by kernel_rfl))
  f195 := Tryd.func35.trans (congrArg some (by kernel_rfl))
  f197 := Tryd.func36.trans (congrArg some (by kernel_rfl))
  f217 := Tryd.func40.trans (congrArg some (by kernel_rfl))
  f218 := Tryd.func37.trans (congrArg some (by kernel_rfl))
  f219 := Tryd.func38.trans (congrArg some (by kernel_rfl))
  f221 := Tryd.func25.trans (congrArg some (by kernel_rfl))
  f224 := Tryd.func42.trans (congrArg some (by kernel_rfl))
  f225 := Tryd.func41.trans (congrArg some (by kernel_rfl))
  f260 := Tryd.func39.trans (congrArg some (by kernel_rfl))
  f266 := Tryd.func44.trans (congrArg some (by kernel_rfl))
  f267 := Tryd.func43.trans (congrArg some (by kernel_rfl))
  f268 := Tryd.func31.trans (congrArg some (by kernel_rfl))
  f314 := Tryd.func45.trans (congrArg some (by kernel_rfl))
  t0 := Tryd.underlying0
  a0 := Tryd.isAgg0
  z0 := Tryd.sizeOf0
  v0 := Tryd.zeroValue0
  t3 := Tryd.underlying3
  a3 := Tryd.isAgg3
  z3 := Tryd.sizeOf3
  v3 := Tryd.zeroValue3
  t4 := Tryd.underlying4
  a4 := Tryd.isAgg4
  z4 := Tryd.sizeOf4
  v4 := Tryd.zeroValue4
  t5 := Tryd.underlying5
  a5 := Tryd.isAgg5
  z5 := Tryd.sizeOf5
  v5 := Tryd.zeroValue5
  t9 := Tryd.underlying9
  a9 := Tryd.isAgg9
  z9 := Tryd.sizeOf9
  v9 := Tryd.zeroValue9
  t21 := Tryd.underlying21
  a21 := Tryd.isAgg21
  z21 := Tryd.sizeOf21
  v21 := Tryd.zeroValue21
  t31 := Tryd.underlying22
  a31 := Tryd.isAgg22
  z31 := Tryd.sizeOf22
  v31 := Tryd.zeroValue22
  t46 := Tryd.underlying55
  a46 := Tryd.isAgg55
  z46 := Tryd.sizeOf55
  v46 := Tryd.zeroValue55
  t51 := Tryd.underlying60
  a51 := Tryd.isAgg60
  z51 := Tryd.sizeOf60
  v51 := Tryd.zeroValue60
  t105 := Tryd.underlying52
  a105 := Tryd.isAgg52
  z105 := Tryd.sizeOf52
  v105 := Tryd.zeroValue52
  t119 := Tryd.underlying56
  a119 := Tryd.isAgg56
  z119 := Tryd.sizeOf56
  t138 := Tryd.underlying58
  a138 := Tryd.isAgg58
  z138 := Tryd.sizeOf58
  v138 := Tryd.zeroValue58
  t139 := Tryd.underlying59
  a139 := Tryd.isAgg59
  z139 := Tryd.sizeOf59
  v139 := Tryd.zeroValue59
  t146 := Tryd.underlying61
  a146 := Tryd.isAgg61
  z146 := Tryd.sizeOf61
  v146 := Tryd.zeroValue61
  g1 := by kernel_rfl
  g3 := by kernel_rfl
  g4 := by kernel_rfl }
set_option maxHeartbeats 1000000 in
theorem split_one (s : ByteArray) (b : UInt8) (w : World) (hs : s.size < 4294967281) : Calls Tryd.prog 14 #[.string s, .string ⟨#[b]⟩] w fun e w' =>
      e = .returned (.slice (some ⟨w.heap.size, 0, none⟩) (Lib.countB s ⟨#[b]⟩ + 1) (Lib.countB s ⟨#[b]⟩ + 1)) ∧ w' = w.alloc (.cells ((Lib.splitB ⟨#[b]⟩ 0 (Lib.countB s ⟨#[b]⟩) s).map Value.string).toArray 9) := by
  have L := l146
  have h1 : 1 ≤ (⟨#[b]⟩ : ByteArray).size := Nat.le_refl _
  generalize hsep : (⟨#[b]⟩ : ByteArray) = sep at h1
  have hI : ∀ (x : ByteArray) (W : World), Calls Tryd.prog (l146_ren.f 143) #[.string x, .string sep] W fun e w' => e = .returned (.int .i64 (Lib.indexB x sep)) ∧ w' = W := by
    intro x W
    subst hsep
    refine (Any.strings_Index_one { L with } x b W).mono fun e w' ⟨he, hw⟩ => ⟨?_, hw⟩
    rw [he]
    show _ = Ending.returned (Value.int .i64 (Lib.index x.data.toList [b]))
    rw [Lib.index_one]
  have hC : Calls Tryd.prog (l146_ren.f 138) #[.string s, .string sep] w fun e w' => e = .returned (.int .i64 (Lib.countB s sep)) ∧ w' = w := by
    subst hsep
    refine (Any.strings_Count_one { L with } s b w).mono fun e w' ⟨he, hw⟩ => ⟨?_, hw⟩
    rw [he]
    show _ = Ending.returned (Value.int .i64 ((Lib.count s.data.toList [b] : Nat) : Int))
    rw [Lib.count_one]
    rfl
  have hle := Lib.countB_le sep h1 s.size s (Nat.le_refl _)
  have hlen := Lib.splitB_all sep h1 0 _ s rfl
  have c := Any.strings_genSplit_core { L with } (by kernel_rfl) s sep 0 (-1) (Lib.countB s sep + 1) w hs h1 (Nat.zero_le _) (fun x c _ => hI x _) hC (by decide) (by decide) (by rw [if_pos (by decide)]; omega)
  rw [Nat.add_sub_cancel, hlen] at c
  have e2 : Lib.cellsOf (Lib.splitB sep 0 (Lib.countB s sep) s) (Lib.countB s sep + 1) = ((Lib.splitB sep 0 (Lib.countB s sep) s).map Value.string).toArray := by rw [← hlen]; exact Lib.cellsOf_full _
  rw [e2] at c
  change Calls Tryd.prog 25 #[.string s, .string sep, .int .i64 0, .int .i64 (-1)] w (fun e w' => _ ∧ w' = w.alloc (.cells _ 9)) at c
  clear hI hC e2 hlen hle
  go_enter Tryd.func14, Tryd.ntmps14
  go_wp2_with (go_at_call 25; refine c.mono ?_; rintro e w' ⟨rfl, hw⟩; rw [hw])
  go_ret
  exact ⟨rfl, rfl⟩
def f14 (_ : Nat) : ByteArray × ByteArray → Option (List ByteArray × Unit) := fun a => match a.2.data.toList with
  | [_] => cond (decide (a.1.size < 4294967281)) (some (Lib.splitB a.2 0 (Lib.countB a.1 a.2) a.1, ())) none
  | _ => none
theorem snd14 (k : Nat) : Snd Tryd.prog UU 14 (WK (Dl.cons (Dc.str UU) (Dl.one (Dc.str UU))) (f14 k) (Dk.own 9 (Dk.nil UU))) where
  enter := ⟨_, Tryd.func14, by kernel_rfl, by kernel_rfl⟩
  run := by
    intro l c x hl hx w M vs hsub hvs
    unfold WK at hl
    split at hl
    · rename_i a ha
      cases hl
      have hv := (Dl.cons (Dc.str UU) (Dl.one (Dc.str UU))).ok _ _ ha _ _ _ hvs
      obtain ⟨v, ws, rfl, h1, h2⟩ := hv.head
      obtain ⟨v2, ws2, rfl, h3, h4⟩ := h2.head
      cases h1
      cases h3
      obtain rfl : ws2 = [] := by have := h4.1; simpa using this.symm
      change f14 k a = some x at hx
      unfold f14 at hx
      split at hx
      · rename_i b hb
        cases hd : decide (a.1.size < 4294967281) <;> rw [hd] at hx
        · cases hx
        cases hx
        have he : a.2 = ⟨#[b]⟩ := by
          cases a with
          | mk a1 a2 => cases a2 with
            | mk d => cases d with
              | mk l => simp at hb; subst hb; rfl
        have hlen := Lib.splitB_all a.2 (by rw [he]; exact Nat.le_refl _) 0 _ a.1 rfl
        have c := split_one a.1 b w (of_decide_eq_true hd)
        rw [← he] at c
        refine c.mono fun e w' ⟨h1, h2⟩ => ?_
        rw [← hlen] at h1
        refine ⟨_, rho1 (.slice (some ⟨w.heap.size, 0, none⟩) (Lib.splitB a.2 0 (Lib.countB a.1 a.2) a.1).length (Lib.splitB a.2 0 (Lib.countB a.1 a.2) a.1).length), M, h1, ?_⟩
        subst h2
        generalize hxs : Lib.splitB a.2 0 (Lib.countB a.1 a.2) a.1 = xs at hlen
        have hbel : Below w.heap.size w (w.alloc (.cells (xs.map Value.string).toArray 9)) := (Below.refl _ w).alloc (Nat.le_refl _) _
        refine ⟨hbel, .refl _, fun _ _ _ => rfl, fun b o u hu => (hbel.cell (World.block_lt_of_cell? w _ (hsub _ _ _ hu))).trans (hsub _ _ _ hu), .own 0 _ _ _ rfl, fun i k hi => ?_, fun i j ki kj vi vj g hi hj ei ej gi gj => ?_⟩
        · cases i with
          | zero =>
            cases hi
            have hmx : xs.length ≤ maxLen := by
              have h5 := Lib.countB_le a.2 (by rw [he]; exact Nat.le_refl _) a.1.size a.1 (Nat.le_refl _)
              have h6 := of_decide_eq_true hd
              simp only [maxLen]
              rw [hlen]
              omega
            refine ⟨_, rfl, xs.map Value.string, ?_, ?_, fun g hg o => ?_, fun g hg => ?_⟩
            · have := World.ownsRow_lit (e := 9) (size := 1) (base := 0) w (xs.map Value.string).toArray xs.length (Nat.zero_le _) hmx (by simp)
              rw [show UU.sz 9 = 1 from rfl]; simpa using this
            · have : xs.flatMap (UU.enc 9) = xs.map fun x => (.v (.string x) : SV TT) := by
                rw [List.map_eq_flatMap]; rfl
              rw [this]
              exact ⟨by simp, by simp [Value.oneCell'], fun i h1 h2 => by simp only [List.getElem_map]; exact .v _⟩
            · cases hg
              cases hm : M w.heap.size o with
              | none => rfl
              | some u => exact absurd (World.block_lt_of_cell? w _ (hsub _ _ _ hm)) (Nat.lt_irrefl _)
            · cases hg; exact Nat.le_refl _
          | succ i => cases hi
        · have : ∀ {i : Nat} {k : Blk TT}, ((Dk.own 9 (Dk.nil UU)).en 0 (xs, ())).2[i]? = some k → i = 0 := by
            intro i k h
            cases i with
            | zero => rfl
            | succ i => cases h
          rw [this hi, this hj]
      · cases hx
    · cases hl
end Go.Sx
