-- Written by the kit's printer at the call of wip/tools/xprint.sh (this session's knobs and contracts). Not trusted: Lean checks it.
import Derived.Test.YtdcblmmfomjhcaaXFnPipeWholex0
import Derived.Test.YtdcblmmfomjhcaaXFnPipeWholex1
import Derived.Test.YtdcblmmfomjhcaaXFnPipeWholex2
import Derived.Test.YtdcblmmfomjhcaaXFnPipeWholex3
namespace Go.Proofs.Ytdcblmmfomjhcaa.XFnPipeWhole
open Go.RowKit Go.Proofs.YtdcblmmfomjhcaaW.PrintWords Go.Proofs.YtdcblmmfomjhcaaW.PrintLast Go.Proofs.YtdcblmmfomjhcaaW.PrintMore
attribute [local go_sem] max2_int min2_int max_two min_two max_three min_three max_four min_four   -- for this text's walks alone
set_option linter.unusedVariables false
set_option linter.unusedSimpArgs false

/-! ### laws_FnPipeWhole: function 6 -/
mutual
def laws_FnPipeWhole.j0 : Nat → List Int → List Int → Bool → Option (Bool)
  | 0, _, _, _ => none
  | k + 1, x0, x1, x28 => if x28 = true then (some true) else ((spec_DrawPipePut.f k x0).bind fun bt163 => (if 0 ≤ ((x1.length : Int) % 3) then (if ((x1.length : Int) % 3) ≤ (x1.length : Int) then (if 2 + (strOfNums (x1.take (((x1.length : Int) % 3) : Int).toNat)).size ≤ 9223372036854775807 then ((impl_PipeOk.f bt163.1 bt163.2.1 bt163.2.2.1).bind fun t169 => ((spec_PipeOk.f bt163.1 bt163.2.1 bt163.2.2.1).bind fun t170 => (if (t169 != t170) = true then (laws_FnPipeWhole.j1 k ((⟨#[97, 98]⟩ : ByteArray) ++ (strOfNums (x1.take (((x1.length : Int) % 3) : Int).toNat))) t169 true bt163.1 bt163.2.1 bt163.2.2.1) else (if t169 = true then (if bt163.2.1 = 0 then (laws_FnPipeWhole.j1 k ((⟨#[97, 98]⟩ : ByteArray) ++ (strOfNums (x1.take (((x1.length : Int) % 3) : Int).toNat))) t169 true bt163.1 bt163.2.1 bt163.2.2.1) else (if bt163.2.2.1 = 0 then (laws_FnPipeWhole.j1 k ((⟨#[97, 98]⟩ : ByteArray) ++ (strOfNums (x1.take (((x1.length : Int) % 3) : Int).toNat))) t169 true bt163.1 bt163.2.1 bt163.2.2.1) else (laws_FnPipeWhole.j1 k ((⟨#[97, 98]⟩ : ByteArray) ++ (strOfNums (x1.take (((x1.length : Int) % 3) : Int).toNat))) t169 (bt163.1.toList != ([] : List UInt8)) bt163.1 bt163.2.1 bt163.2.2.1))) else (laws_FnPipeWhole.j1 k ((⟨#[97, 98]⟩ : ByteArray) ++ (strOfNums (x1.take (((x1.length : Int) % 3) : Int).toNat))) t169 true bt163.1 bt163.2.1 bt163.2.2.1))))) else (none)) else (none)) else (none)))
def laws_FnPipeWhole.j1 : Nat → ByteArray → Bool → Bool → ByteArray → Int → Int → Option (Bool)
  | 0, _, _, _, _, _, _ => none
  | k + 1, x7, x8, x65, x168000, x168001, x168002 => if x65 = true then ((spec_PipeOk.f x168000 x168001 x168002).bind fun t171 => (some (x8 == t171))) else ((impl_PipePut.f k x168000 x168001 x168002 x7).bind fun bt172 => ((impl_PipePut.f k bt172.1 bt172.2.1 bt172.2.2.1 (⟨#[120, 121, 122]⟩ : ByteArray)).bind fun bt178 => ((impl_PipeTake.f k bt178.1 bt178.2.1 bt178.2.2.1 (x7.size : Int)).bind fun bt184 => ((impl_PipeTake.f k bt184.1 bt184.2.1 bt184.2.2.1 3).bind fun bt190 => (if bt172.2.2.2.2 = 0 then (if bt172.2.2.2.1 = (x7.size : Int) then (if bt178.2.2.2.2 = 0 then (if bt178.2.2.2.1 = 3 then (if bt184.2.2.2.2 = 0 then (if bt184.2.2.2.1.toList = x7.toList then (if bt190.2.2.2.2 = 0 then (some (bt190.2.2.2.1.toList == ([120, 121, 122] : List UInt8))) else (some false)) else (some false)) else (some false)) else (some false)) else (some false)) else (some false)) else (some false))))))
end
def laws_FnPipeWhole.f (k : Nat) (l0 : List Int) (l1 : List Int) : Option (Bool) := if (l0.length : Int) > 1048576 then (laws_FnPipeWhole.j0 k l0 l1 true) else (laws_FnPipeWhole.j0 k l0 l1 (decide ((l1.length : Int) > 1048576)))
theorem laws_FnPipeWhole.mono_l : ∀ k, (∀ y0 y1 y2, LeO (laws_FnPipeWhole.j0 k y0 y1 y2) (laws_FnPipeWhole.j0 (k + 1) y0 y1 y2)) ∧ (∀ y0 y1 y2 y3 y4 y5, LeO (laws_FnPipeWhole.j1 k y0 y1 y2 y3 y4 y5) (laws_FnPipeWhole.j1 (k + 1) y0 y1 y2 y3 y4 y5))
  | 0 => ⟨fun _ _ _ r h => by simp [laws_FnPipeWhole.j0] at h, fun _ _ _ _ _ _ r h => by simp [laws_FnPipeWhole.j1] at h⟩
  | k + 1 => by
    obtain ⟨ih0, ih1⟩ := laws_FnPipeWhole.mono_l k
    refine ⟨?_, ?_⟩
    · intro y0 y1 y2
      unfold laws_FnPipeWhole.j0
      repeat' first
      | (with_reducible exact ih0 _ _ _)
      | (with_reducible exact ih1 _ _ _ _ _ _)
      | (with_reducible exact impl_PipePut.mono _ _ _ _ _)
      | (with_reducible exact impl_PipeTake.mono _ _ _ _ _)
      | (with_reducible exact spec_DrawPipePut.mono _ _)
      | (with_reducible exact LeO.refl _)
      | (with_reducible exact LeO.none _)
      | (with_reducible refine LeO.ite ?_ ?_)
      | (with_reducible refine LeO.bind ?_ (fun _ => ?_))
      | exact ih0 _ _ _
      | exact ih1 _ _ _ _ _ _
      | exact impl_PipePut.mono _ _ _ _ _
      | exact impl_PipeTake.mono _ _ _ _ _
      | exact spec_DrawPipePut.mono _ _
      | exact LeO.none _
      | refine LeO.ite ?_ ?_
      | refine LeO.bind ?_ (fun _ => ?_)
    · intro y0 y1 y2 y3 y4 y5
      unfold laws_FnPipeWhole.j1
      repeat' first
      | (with_reducible exact ih0 _ _ _)
      | (with_reducible exact ih1 _ _ _ _ _ _)
      | (with_reducible exact impl_PipePut.mono _ _ _ _ _)
      | (with_reducible exact impl_PipeTake.mono _ _ _ _ _)
      | (with_reducible exact spec_DrawPipePut.mono _ _)
      | (with_reducible exact LeO.refl _)
      | (with_reducible exact LeO.none _)
      | (with_reducible refine LeO.ite ?_ ?_)
      | (with_reducible refine LeO.bind ?_ (fun _ => ?_))
      | exact ih0 _ _ _
      | exact ih1 _ _ _ _ _ _
      | exact impl_PipePut.mono _ _ _ _ _
      | exact impl_PipeTake.mono _ _ _ _ _
      | exact spec_DrawPipePut.mono _ _
      | exact LeO.none _
      | refine LeO.ite ?_ ?_
      | refine LeO.bind ?_ (fun _ => ?_)
theorem laws_FnPipeWhole.mono : ∀ a0 a1 k, LeO (laws_FnPipeWhole.f k a0 a1) (laws_FnPipeWhole.f (k + 1) a0 a1) := by
  intro a0 a1 k
  obtain ⟨ih0, ih1⟩ := laws_FnPipeWhole.mono_l k
  unfold laws_FnPipeWhole.f
  repeat' first
      | (with_reducible exact ih0 _ _ _)
      | (with_reducible exact ih1 _ _ _ _ _ _)
      | (with_reducible exact impl_PipePut.mono _ _ _ _ _)
      | (with_reducible exact impl_PipeTake.mono _ _ _ _ _)
      | (with_reducible exact spec_DrawPipePut.mono _ _)
      | (with_reducible exact LeO.refl _)
      | (with_reducible exact LeO.none _)
      | (with_reducible refine LeO.ite ?_ ?_)
      | (with_reducible refine LeO.bind ?_ (fun _ => ?_))
      | exact ih0 _ _ _
      | exact ih1 _ _ _ _ _ _
      | exact impl_PipePut.mono _ _ _ _ _
      | exact impl_PipeTake.mono _ _ _ _ _
      | exact spec_DrawPipePut.mono _ _
      | exact LeO.none _
      | refine LeO.ite ?_ ?_
      | refine LeO.bind ?_ (fun _ => ?_)
set_option maxHeartbeats 8000000 in
set_option maxRecDepth 100000 in
theorem laws_FnPipeWhole.calls (k : Nat) (A0 : Option Addr) (c0 : Nat) (l0 : List Int) (A1 : Option Addr) (c1 : Nat) (l1 : List Int) (r : Bool) (w : World) (hr0 : Kd.C (Kd.int .u8) w A0 l0.length l0) (hc0 : l0.length ≤ c0) (hr1 : Kd.C (Kd.int .u8) w A1 l1.length l1) (hc1 : l1.length ≤ c1) (h : laws_FnPipeWhole.f k l0 l1 = some r) (hr_ : r = true) :
    Calls Try.prog 6 #[.slice A0 l0.length c0, .slice A1 l1.length c1] w fun e w' => e = .returned (.bool r) ∧ Below w.heap.size w w' := by
  have hu25 := Try.underlying25
  have HR0 := Aside0.mk hr0
  have HC0 := Aside0.mk hc0
  clear hr0 hc0
  have HR1 := Aside0.mk hr1
  have HC1 := Aside0.mk hc1
  clear hr1 hc1
  have HB := Aside0.mk (Below.refl w.heap.size w)
  have H : (if (l0.length : Int) > 1048576 then (laws_FnPipeWhole.j0 k l0 l1 true) else (laws_FnPipeWhole.j0 k l0 l1 (decide ((l1.length : Int) > 1048576)))) = some r := h
  clear h
  have HC3 := Aside0.mk H
  clear H
  go_enter Try.func6, Try.ntmps6
  go_upto_region 1 with (fail)
  go_cut [28] (fun v28 wc => ∃ (kq : Nat) (x28_2 : Bool), v28 = .bool x28_2 ∧ Aside0 (laws_FnPipeWhole.j0 kq l0 l1 x28_2 = some r) ∧ Aside0 (kq ≤ k) ∧ Aside0 (Below w.heap.size w wc))
  case first =>
    have H := HC3.out
    clear HC3
    by_cases c4 : (l0.length : Int) > 1048576
    · rw [if_pos c4] at H
      have c4b0 : decide (1048576 < (l0.length : Int)) = true := decide_eq_true c4
      have c4b1 : decide (1048576 < l0.length) = true := decide_eq_true (by omega)
      clear c4
      (first | rw [c4b0] | (simp only [i64_w, i32_w]; rw [c4b0]) | skip)
      have H' := Aside0.mk H
      clear H
      go_wp2
      go_meet
      case rel => exact ⟨_, (true), (by first | rfl | (simp; done) | (simp [*]; done)), H', ⟨by first | omega | exact Nat.le_refl _⟩, ⟨by repeat (first | (with_reducible first | exact HB.out | apply below_alloc | apply pw_below_drewN | apply below_drew1) | exact HB.out)⟩⟩
    · rw [if_neg c4] at H
      have c4b0 : decide (1048576 < (l0.length : Int)) = false := decide_eq_false c4
      have c4b1 : decide (1048576 < l0.length) = false := decide_eq_false (by omega)
      clear c4
      (first | rw [c4b0] | (simp only [i64_w, i32_w]; rw [c4b0]) | skip)
      have H' := Aside0.mk H
      clear H
      go_wp2
      go_meet
      case rel => exact ⟨_, (decide ((l1.length : Int) > 1048576)), (by first | rfl | (simp; done) | (simp [*]; done)), H', ⟨by first | omega | exact Nat.le_refl _⟩, ⟨by repeat (first | (with_reducible first | exact HB.out | apply below_alloc | apply pw_below_drewN | apply below_drew1) | exact HB.out)⟩⟩
  case rest =>
    clear HC3
    try clear c1
    try clear p2
    try clear c4
    try clear c4b0
    try clear c4b1
    obtain ⟨kq, x28_2, rfl, HA, HJ2, HB⟩ := hcut
    cases kq with
    | zero => exact absurd HA.out (by simp [laws_FnPipeWhole.j0])
    | succ kj2 =>
      have H := HA.out
      clear HA
      simp only [laws_FnPipeWhole.j0] at H
      by_cases c5 : x28_2 = true
      · subst c5
        have H1 : (some true) = some r := by rw [if_pos rfl] at H; exact H
        clear H
        have H := H1
        clear H1
        obtain rfl := Option.some.inj H
        simp only [Option.some.injEq, Prod.mk.injEq] at H
        obtain ⟨rfl⟩ := H
        go_wp2
        go_ret
        exact ⟨by first | rfl | (simp [errW_none, errW_some] <;> rfl) | (simp [*, errW_none, errW_some] <;> rfl), by repeat (first | (with_reducible first | exact HB.out | apply below_alloc | apply pw_below_drewN | apply below_drew1) | exact HB.out)⟩
      · replace c5 := Bool.eq_false_iff.mpr c5
        subst c5
        have H1 : ((spec_DrawPipePut.f kj2 l0).bind fun bt163 => (if 0 ≤ ((l1.length : Int) % 3) then (if ((l1.length : Int) % 3) ≤ (l1.length : Int) then (if 2 + (strOfNums (l1.take (((l1.length : Int) % 3) : Int).toNat)).size ≤ 9223372036854775807 then ((impl_PipeOk.f bt163.1 bt163.2.1 bt163.2.2.1).bind fun t169 => ((spec_PipeOk.f bt163.1 bt163.2.1 bt163.2.2.1).bind fun t170 => (if (t169 != t170) = true then (laws_FnPipeWhole.j1 kj2 ((⟨#[97, 98]⟩ : ByteArray) ++ (strOfNums (l1.take (((l1.length : Int) % 3) : Int).toNat))) t169 true bt163.1 bt163.2.1 bt163.2.2.1) else (if t169 = true then (if bt163.2.1 = 0 then (laws_FnPipeWhole.j1 kj2 ((⟨#[97, 98]⟩ : ByteArray) ++ (strOfNums (l1.take (((l1.length : Int) % 3) : Int).toNat))) t169 true bt163.1 bt163.2.1 bt163.2.2.1) else (if bt163.2.2.1 = 0 then (laws_FnPipeWhole.j1 kj2 ((⟨#[97, 98]⟩ : ByteArray) ++ (strOfNums (l1.take (((l1.length : Int) % 3) : Int).toNat))) t169 true bt163.1 bt163.2.1 bt163.2.2.1) else (laws_FnPipeWhole.j1 kj2 ((⟨#[97, 98]⟩ : ByteArray) ++ (strOfNums (l1.take (((l1.length : Int) % 3) : Int).toNat))) t169 (bt163.1.toList != ([] : List UInt8)) bt163.1 bt163.2.1 bt163.2.2.1))) else (laws_FnPipeWhole.j1 kj2 ((⟨#[97, 98]⟩ : ByteArray) ++ (strOfNums (l1.take (((l1.length : Int) % 3) : Int).toNat))) t169 true bt163.1 bt163.2.1 bt163.2.2.1))))) else (none)) else (none)) else (none))) = some r := by rw [if_neg (show ¬ (false = true) by decide)] at H; exact H
        clear H
        have H := H1
        clear H1
        replace H := Option.bind_eq_some_iff.mp H
        obtain ⟨⟨t163, t164, t165, t166⟩, A60, H⟩ := H
        replace H : (if 0 ≤ ((l1.length : Int) % 3) then (if ((l1.length : Int) % 3) ≤ (l1.length : Int) then (if 2 + (strOfNums (l1.take (((l1.length : Int) % 3) : Int).toNat)).size ≤ 9223372036854775807 then ((impl_PipeOk.f t163 t164 t165).bind fun t169 => ((spec_PipeOk.f t163 t164 t165).bind fun t170 => (if (t169 != t170) = true then (laws_FnPipeWhole.j1 kj2 ((⟨#[97, 98]⟩ : ByteArray) ++ (strOfNums (l1.take (((l1.length : Int) % 3) : Int).toNat))) t169 true t163 t164 t165) else (if t169 = true then (if t164 = 0 then (laws_FnPipeWhole.j1 kj2 ((⟨#[97, 98]⟩ : ByteArray) ++ (strOfNums (l1.take (((l1.length : Int) % 3) : Int).toNat))) t169 true t163 t164 t165) else (if t165 = 0 then (laws_FnPipeWhole.j1 kj2 ((⟨#[97, 98]⟩ : ByteArray) ++ (strOfNums (l1.take (((l1.length : Int) % 3) : Int).toNat))) t169 true t163 t164 t165) else (laws_FnPipeWhole.j1 kj2 ((⟨#[97, 98]⟩ : ByteArray) ++ (strOfNums (l1.take (((l1.length : Int) % 3) : Int).toNat))) t169 (t163.toList != ([] : List UInt8)) t163 t164 t165))) else (laws_FnPipeWhole.j1 kj2 ((⟨#[97, 98]⟩ : ByteArray) ++ (strOfNums (l1.take (((l1.length : Int) % 3) : Int).toNat))) t169 true t163 t164 t165))))) else (none)) else (none)) else (none)) = some r := H
        have A6 := Aside0.mk A60
        clear A60
        obtain ⟨ji7, hji7⟩ : ∃ j_ : Int, ((l1.length : Int) % 3) = j_ := ⟨_, rfl⟩
        replace H : (if 0 ≤ (ji7) then (if (ji7) ≤ (l1.length : Int) then (if 2 + (strOfNums (l1.take ((ji7) : Int).toNat)).size ≤ 9223372036854775807 then ((impl_PipeOk.f t163 t164 t165).bind fun t169 => ((spec_PipeOk.f t163 t164 t165).bind fun t170 => (if (t169 != t170) = true then (laws_FnPipeWhole.j1 kj2 ((⟨#[97, 98]⟩ : ByteArray) ++ (strOfNums (l1.take ((ji7) : Int).toNat))) t169 true t163 t164 t165) else (if t169 = true then (if t164 = 0 then (laws_FnPipeWhole.j1 kj2 ((⟨#[97, 98]⟩ : ByteArray) ++ (strOfNums (l1.take ((ji7) : Int).toNat))) t169 true t163 t164 t165) else (if t165 = 0 then (laws_FnPipeWhole.j1 kj2 ((⟨#[97, 98]⟩ : ByteArray) ++ (strOfNums (l1.take ((ji7) : Int).toNat))) t169 true t163 t164 t165) else (laws_FnPipeWhole.j1 kj2 ((⟨#[97, 98]⟩ : ByteArray) ++ (strOfNums (l1.take ((ji7) : Int).toNat))) t169 (t163.toList != ([] : List UInt8)) t163 t164 t165))) else (laws_FnPipeWhole.j1 kj2 ((⟨#[97, 98]⟩ : ByteArray) ++ (strOfNums (l1.take ((ji7) : Int).toNat))) t169 true t163 t164 t165))))) else (none)) else (none)) else (none)) = some r := by first | (rw [hji7] at H; exact H) | (simp only [hji7] at H ⊢; exact H)
        (try rw [hji7] at A6)
        by_cases c8 : 0 ≤ (ji7)
        · rw [if_pos c8] at H
          have c8b0 := eq_true c8
          have c8b1 : decide (0 ≤ (ji7)) = true := decide_eq_true c8
          clear c8
          by_cases c9 : (ji7) ≤ (l1.length : Int)
          · rw [if_pos c9] at H
            have c9b0 := eq_true c9
            have c9b1 : decide ((ji7) ≤ (l1.length : Int)) = true := decide_eq_true c9
            clear c9
            by_cases c10 : 2 + (strOfNums (l1.take ((ji7) : Int).toNat)).size ≤ 9223372036854775807
            · rw [if_pos c10] at H
              have c10b0 := eq_true c10
              have c10b1 : decide (2 + (strOfNums (l1.take ((ji7) : Int).toNat)).size ≤ 9223372036854775807) = true := decide_eq_true c10
              try have c10b2 : (9223372036854775807 < 2 + (strOfNums (l1.take ((ji7) : Int).toNat)).size) = False := eq_false (Nat.not_lt.2 c10)
              replace H := Option.bind_eq_some_iff.mp H
              obtain ⟨t169, A110, H⟩ := H
              replace H : ((spec_PipeOk.f t163 t164 t165).bind fun t170 => (if (t169 != t170) = true then (laws_FnPipeWhole.j1 kj2 ((⟨#[97, 98]⟩ : ByteArray) ++ (strOfNums (l1.take ((ji7) : Int).toNat))) t169 true t163 t164 t165) else (if t169 = true then (if t164 = 0 then (laws_FnPipeWhole.j1 kj2 ((⟨#[97, 98]⟩ : ByteArray) ++ (strOfNums (l1.take ((ji7) : Int).toNat))) t169 true t163 t164 t165) else (if t165 = 0 then (laws_FnPipeWhole.j1 kj2 ((⟨#[97, 98]⟩ : ByteArray) ++ (strOfNums (l1.take ((ji7) : Int).toNat))) t169 true t163 t164 t165) else (laws_FnPipeWhole.j1 kj2 ((⟨#[97, 98]⟩ : ByteArray) ++ (strOfNums (l1.take ((ji7) : Int).toNat))) t169 (t163.toList != ([] : List UInt8)) t163 t164 t165))) else (laws_FnPipeWhole.j1 kj2 ((⟨#[97, 98]⟩ : ByteArray) ++ (strOfNums (l1.take ((ji7) : Int).toNat))) t169 true t163 t164 t165)))) = some r := H
              have A11 := Aside0.mk A110
              clear A110
              have HC12 := Aside0.mk H
              clear H
              go_upto_region 6 with (first | ((with_reducible refine gate_callee (f := 16) rfl ?_); refine goesL_ (some 31) rfl rfl Try.func16 (by kernel_rfl) rfl #[.slice A0 l0.length c0] rfl (by (try simp only [List.map_toArray, List.map_cons, List.map_nil]); first | done | rfl | (simp only [List.length_drop, List.length_take]; rfl)) ?_; (with_reducible refine (spec_DrawPipePut.calls kj2 _ _ l0 t163 t164 t165 t166 _ ?side1 ?side2 A6.out).mono ?_); (case side1 => repeat (first | exact (Kd.C_below HR0.out HB.out) | (with_reducible refine Kd.C_alloc ?_ _) | (with_reducible refine Kd.C_drewN ?_ _) | (with_reducible refine Kd.C_drew ?_))); (case side2 => exact HC0.out); rintro e w13 ⟨rfl, hb⟩; refine ⟨_, rfl, ?_⟩; have n0_ := Aside0.mk (below_step (by repeat (first | (with_reducible first | exact HB.out | apply below_alloc | apply pw_below_drewN | apply below_drew1) | exact HB.out)) hb); clear HB; have HB := n0_; clear n0_; (try clear hb); (try clear hb2); (try clear hk); (try clear hi)) | ((with_reducible refine gate_dst (N := 5) rfl ?_); (try (refine gate_guard (by rfl) ?_; dsimp only)); refine box_event ?hg (N := 5) ?hd (cs := #[.string (⟨#[]⟩ : ByteArray), .int .i64 0, .int .i64 0]) (t := 25) ?hr ?_; (case hd => rfl); (case hg => rfl); (case hr => first | (go_simp; done) | (go_simp; rfl)); intro gb167 hg w14 hbox hb; have n0_ := Aside0.mk (below_step (by repeat (first | (with_reducible first | exact HB.out | apply below_alloc | apply pw_below_drewN | apply below_drew1) | exact HB.out)) hb); have n1_ := Aside0.mk (hbox); have n2_ := Aside0.mk ((by rw [hg]; exact (below_size (by repeat (first | (with_reducible first | exact HB.out | apply below_alloc | apply pw_below_drewN | apply below_drew1) | exact HB.out))) : w.heap.size ≤ gb167)); have n3_ := Aside0.mk ((by rw [hg]; exact (below_size (by repeat (first | (with_reducible first | exact HB.out | apply below_alloc | apply pw_below_drewN | apply below_drew1) | exact HB.out))) : w.heap.size ≤ gb167)); clear HB; have HB := n0_; have BK167 := n1_; have GW167 := n2_; have GE167 := n3_; clear n0_ n1_ n2_ n3_; clear hb hbox hg; have hcz15_0 : w14.cell? ⟨gb167, 0, none⟩ = some (.string (⟨#[]⟩ : ByteArray)) := (blk_cell BK167.out 0).trans rfl; have hcz15_1 : w14.cell? ⟨gb167, 1, none⟩ = some (.int .i64 0) := (blk_cell BK167.out 1).trans rfl; have hcz15_2 : w14.cell? ⟨gb167, 2, none⟩ = some (.int .i64 0) := (blk_cell BK167.out 2).trans rfl; have hfz15_0 := blk_frozen BK167.out 0; have hfz15_1 := blk_frozen BK167.out 1; have hfz15_2 := blk_frozen BK167.out 2; obtain ⟨i016, hi016, _, hsz16, _⟩ := info_parts info5; obtain ⟨hcut16, hA16, hC16⟩ := print_take_of (P := Try.prog) (Value.int .u8) 0 34 5 .i64 Try.underlying34 hi016 hsz16 A1 c1 l1 (ji7) (of_decide_eq_true (by first | (with_reducible assumption) | assumption)) (of_decide_eq_true (by first | (with_reducible assumption) | assumption)) HC1.out; have HR168 := Aside0.mk (Kd.C_of_reads (h1 := fun _ => rfl) (hA16 _ (Kd.reads_of_C HR1.out))); have HC168 := Aside0.mk hC16; clear hA16 hC16 hi016 hsz16; have hcv17 := Kd.C_string (P := Try.prog) (A := A1) (c := c1) Try.underlying34 Try.underlying5 Try.underlying9 (Kd.C_below (w1 := ((w14.setCell ⟨gb167, 0, none⟩ (.string t163)).setCell ⟨gb167, 1, none⟩ (.int .i64 t164)).setCell ⟨gb167, 2, none⟩ (.int .i64 t165)) HR168.out (below_set (below_set (below_set HB.out GE167.out) GE167.out) GE167.out)); rw [show (List.take (ji7 : Int).toNat l1).length = (ji7 : Int).toNat from by (rw [List.length_take]; have h1_ := of_decide_eq_true c9b1; omega)] at hcv17) | ((with_reducible refine gate_callee (f := 17) rfl ?_); refine goesL_ (some 42) rfl rfl Try.func17 (by kernel_rfl) rfl #[.agg #[.string t163, .int .i64 t164, .int .i64 t165]] rfl (by (try simp only [List.map_toArray, List.map_cons, List.map_nil]); first | done | rfl | (simp only [List.length_drop, List.length_take]; rfl)) ?_; (with_reducible refine (impl_PipeOk.calls t163 t164 t165 t169 _ A11.out).mono ?_); rintro e w18 ⟨rfl, hb⟩; refine ⟨_, rfl, ?_⟩; have n0_ := Aside0.mk (blk_below (g := gb167) (o := .cells #[.string t163, .int .i64 t164, .int .i64 t165] 25 (0, 0)) (by (with_reducible repeat (first | refine blk_drewN ?_ _ | refine blk_drew ?_ | refine blk_alloc ?_ _)); refine blk_put (cs := #[.string t163, .int .i64 t164, .int .i64 0]) ?_ 2 _ rfl; (with_reducible repeat (first | refine blk_drewN ?_ _ | refine blk_drew ?_ | refine blk_alloc ?_ _)); refine blk_put (cs := #[.string t163, .int .i64 0, .int .i64 0]) ?_ 1 _ rfl; (with_reducible repeat (first | refine blk_drewN ?_ _ | refine blk_drew ?_ | refine blk_alloc ?_ _)); refine blk_put (cs := #[.string (⟨#[]⟩ : ByteArray), .int .i64 0, .int .i64 0]) ?_ 0 _ rfl; (with_reducible repeat (first | refine blk_drewN ?_ _ | refine blk_drew ?_ | refine blk_alloc ?_ _)); exact BK167.out) hb); have n1_ := Aside0.mk (below_step (by repeat (first | (with_reducible first | exact HB.out | apply below_alloc | apply pw_below_drewN | apply below_drew1 | refine below_set ?_ GE167.out) | exact HB.out)) hb); clear BK167; clear HB; have BK167 := n0_; have HB := n1_; clear n0_ n1_; (try clear hb); (try clear hb2); (try clear hk); (try clear hi)))
              (try simp only [Act.put, List.setIfInBounds_toArray, List.set_cons_zero, List.set_cons_succ])
              go_cut [65] (fun v65 wc => ∃ (kq : Nat) (x65_11 : Bool), v65 = .bool x65_11 ∧ Aside0 (laws_FnPipeWhole.j1 kq ((⟨#[97, 98]⟩ : ByteArray) ++ (strOfNums (l1.take ((ji7) : Int).toNat))) t169 x65_11 t163 t164 t165 = some r) ∧ Aside0 (kq ≤ kj2) ∧ Aside0 (wc.heap[gb167]? = some (.cells #[.string t163, .int .i64 t164, .int .i64 t165] 25 (0, 0))) ∧ Aside0 (Below w.heap.size w wc))
              case first =>
                have H := HC12.out
                clear HC12
                replace H := Option.bind_eq_some_iff.mp H
                obtain ⟨t170, A190, H⟩ := H
                replace H : (if (t169 != t170) = true then (laws_FnPipeWhole.j1 kj2 ((⟨#[97, 98]⟩ : ByteArray) ++ (strOfNums (l1.take ((ji7) : Int).toNat))) t169 true t163 t164 t165) else (if t169 = true then (if t164 = 0 then (laws_FnPipeWhole.j1 kj2 ((⟨#[97, 98]⟩ : ByteArray) ++ (strOfNums (l1.take ((ji7) : Int).toNat))) t169 true t163 t164 t165) else (if t165 = 0 then (laws_FnPipeWhole.j1 kj2 ((⟨#[97, 98]⟩ : ByteArray) ++ (strOfNums (l1.take ((ji7) : Int).toNat))) t169 true t163 t164 t165) else (laws_FnPipeWhole.j1 kj2 ((⟨#[97, 98]⟩ : ByteArray) ++ (strOfNums (l1.take ((ji7) : Int).toNat))) t169 (t163.toList != ([] : List UInt8)) t163 t164 t165))) else (laws_FnPipeWhole.j1 kj2 ((⟨#[97, 98]⟩ : ByteArray) ++ (strOfNums (l1.take ((ji7) : Int).toNat))) t169 true t163 t164 t165))) = some r := H
                have A19 := Aside0.mk A190
                clear A190
                by_cases c20 : (t169 != t170) = true
                · rw [if_pos c20] at H
                  have c20b0 : (t169 != t170) = true := c20
                  (try (have c20b1 : decide (t169 = t170) = false := by simpa using c20))
                  (try (have c20b2 : (t169 == t170) = false := by simpa using c20))
                  (try (have c20b3 : ¬ (t169 = t170) := by simpa using c20))
                  clear c20
                  (first | rw [c20b0] | (simp only [i64_w, i32_w]; rw [c20b0]) | skip)
                  have H' := Aside0.mk H
                  clear H
                  have hcz21_0 : w18.cell? ⟨gb167, 0, none⟩ = some (.string t163) := (blk_cell BK167.out 0).trans rfl
                  have hcz21_1 : w18.cell? ⟨gb167, 1, none⟩ = some (.int .i64 t164) := (blk_cell BK167.out 1).trans rfl
                  have hcz21_2 : w18.cell? ⟨gb167, 2, none⟩ = some (.int .i64 t165) := (blk_cell BK167.out 2).trans rfl
                  have hfz21_0 := blk_frozen BK167.out 0
                  have hfz21_1 := blk_frozen BK167.out 1
                  have hfz21_2 := blk_frozen BK167.out 2
                  go_wp2_with (first | ((with_reducible refine gate_callee (f := 18) rfl ?_); refine goesL_ (some 45) rfl rfl Try.func18 (by kernel_rfl) rfl #[.agg #[.string t163, .int .i64 t164, .int .i64 t165]] rfl (by (try simp only [List.map_toArray, List.map_cons, List.map_nil]); first | done | rfl | (simp only [List.length_drop, List.length_take]; rfl)) ?_; (with_reducible refine (spec_PipeOk.calls t163 t164 t165 t170 _ A19.out).mono ?_); rintro e w22 ⟨rfl, hb⟩; refine ⟨_, rfl, ?_⟩; have n0_ := Aside0.mk (blk_below (g := gb167) (o := .cells #[.string t163, .int .i64 t164, .int .i64 t165] 25 (0, 0)) (by (with_reducible repeat (first | refine blk_drewN ?_ _ | refine blk_drew ?_ | refine blk_alloc ?_ _)); exact BK167.out) hb); have n1_ := Aside0.mk (below_step (by repeat (first | (with_reducible first | exact HB.out | apply below_alloc | apply pw_below_drewN | apply below_drew1 | refine below_set ?_ GE167.out) | exact HB.out)) hb); clear BK167; clear HB; have BK167 := n0_; have HB := n1_; clear n0_ n1_; (try clear hb); (try clear hb2); (try clear hk); (try clear hi)))
                  go_meet
                  case rel => exact ⟨_, (true), (by first | rfl | (simp; done) | (simp [*]; done)), H', ⟨by have := HJ2.out; first | omega | exact Nat.le_refl _⟩, ⟨by (with_reducible repeat (first | refine blk_drewN ?_ _ | refine blk_drew ?_ | refine blk_alloc ?_ _)); exact BK167.out⟩, ⟨by repeat (first | (with_reducible first | exact HB.out | apply below_alloc | apply pw_below_drewN | apply below_drew1 | refine below_set ?_ GE167.out) | exact HB.out)⟩⟩
                · rw [if_neg c20] at H
                  have c20b0 : (t169 != t170) = false := by simpa using c20
                  (try (have c20b1 : decide (t169 = t170) = true := by simpa using c20))
                  (try (have c20b2 : (t169 == t170) = true := by simpa using c20))
                  clear c20
                  (first | rw [c20b0] | (simp only [i64_w, i32_w]; rw [c20b0]) | skip)
                  by_cases c23 : t169 = true
                  · subst c23
                    have H1 : (if t164 = 0 then (laws_FnPipeWhole.j1 kj2 ((⟨#[97, 98]⟩ : ByteArray) ++ (strOfNums (l1.take ((ji7) : Int).toNat))) true true t163 t164 t165) else (if t165 = 0 then (laws_FnPipeWhole.j1 kj2 ((⟨#[97, 98]⟩ : ByteArray) ++ (strOfNums (l1.take ((ji7) : Int).toNat))) true true t163 t164 t165) else (laws_FnPipeWhole.j1 kj2 ((⟨#[97, 98]⟩ : ByteArray) ++ (strOfNums (l1.take ((ji7) : Int).toNat))) true (t163.toList != ([] : List UInt8)) t163 t164 t165))) = some r := by rw [if_pos rfl] at H; exact H
                    clear H
                    have H := H1
                    clear H1
                    by_cases c24 : t164 = 0
                    · rw [if_pos c24] at H
                      have c24b0 : (t164 == 0) = true := beq_iff_eq.mpr c24
                      have c24b1 : (t164 != 0) = false := bne_eq_false_iff_eq.mpr c24
                      clear c24
                      have H' := Aside0.mk H
                      clear H
                      have hcz25_0 : w18.cell? ⟨gb167, 0, none⟩ = some (.string t163) := (blk_cell BK167.out 0).trans rfl
                      have hcz25_1 : w18.cell? ⟨gb167, 1, none⟩ = some (.int .i64 t164) := (blk_cell BK167.out 1).trans rfl
                      have hcz25_2 : w18.cell? ⟨gb167, 2, none⟩ = some (.int .i64 t165) := (blk_cell BK167.out 2).trans rfl
                      have hfz25_0 := blk_frozen BK167.out 0
                      have hfz25_1 := blk_frozen BK167.out 1
                      have hfz25_2 := blk_frozen BK167.out 2
                      go_wp2_with (first | ((with_reducible refine gate_callee (f := 18) rfl ?_); refine goesL_ (some 45) rfl rfl Try.func18 (by kernel_rfl) rfl #[.agg #[.string t163, .int .i64 t164, .int .i64 t165]] rfl (by (try simp only [List.map_toArray, List.map_cons, List.map_nil]); first | done | rfl | (simp only [List.length_drop, List.length_take]; rfl)) ?_; (with_reducible refine (spec_PipeOk.calls t163 t164 t165 t170 _ A19.out).mono ?_); rintro e w26 ⟨rfl, hb⟩; refine ⟨_, rfl, ?_⟩; have n0_ := Aside0.mk (blk_below (g := gb167) (o := .cells #[.string t163, .int .i64 t164, .int .i64 t165] 25 (0, 0)) (by (with_reducible repeat (first | refine blk_drewN ?_ _ | refine blk_drew ?_ | refine blk_alloc ?_ _)); exact BK167.out) hb); have n1_ := Aside0.mk (below_step (by repeat (first | (with_reducible first | exact HB.out | apply below_alloc | apply pw_below_drewN | apply below_drew1 | refine below_set ?_ GE167.out) | exact HB.out)) hb); clear BK167; clear HB; have BK167 := n0_; have HB := n1_; clear n0_ n1_; (try clear hb); (try clear hb2); (try clear hk); (try clear hi); have hcz27_0 : w26.cell? ⟨gb167, 0, none⟩ = some (.string t163) := (blk_cell BK167.out 0).trans rfl; have hcz27_1 : w26.cell? ⟨gb167, 1, none⟩ = some (.int .i64 t164) := (blk_cell BK167.out 1).trans rfl; have hcz27_2 : w26.cell? ⟨gb167, 2, none⟩ = some (.int .i64 t165) := (blk_cell BK167.out 2).trans rfl; have hfz27_0 := blk_frozen BK167.out 0; have hfz27_1 := blk_frozen BK167.out 1; have hfz27_2 := blk_frozen BK167.out 2))
                      go_meet
                      case rel => exact ⟨_, (true), (by first | rfl | (simp; done) | (simp [*]; done)), H', ⟨by have := HJ2.out; first | omega | exact Nat.le_refl _⟩, ⟨by (with_reducible repeat (first | refine blk_drewN ?_ _ | refine blk_drew ?_ | refine blk_alloc ?_ _)); exact BK167.out⟩, ⟨by repeat (first | (with_reducible first | exact HB.out | apply below_alloc | apply pw_below_drewN | apply below_drew1 | refine below_set ?_ GE167.out) | exact HB.out)⟩⟩
                    · rw [if_neg c24] at H
                      have c24b0 : (t164 == 0) = false := beq_eq_false_iff_ne.mpr c24
                      have c24b1 : (t164 != 0) = true := bne_iff_ne.mpr c24
                      by_cases c28 : t165 = 0
                      · rw [if_pos c28] at H
                        have c28b0 : (t165 == 0) = true := beq_iff_eq.mpr c28
                        have c28b1 : (t165 != 0) = false := bne_eq_false_iff_eq.mpr c28
                        clear c28
                        have H' := Aside0.mk H
                        clear H
                        have hcz29_0 : w18.cell? ⟨gb167, 0, none⟩ = some (.string t163) := (blk_cell BK167.out 0).trans rfl
                        have hcz29_1 : w18.cell? ⟨gb167, 1, none⟩ = some (.int .i64 t164) := (blk_cell BK167.out 1).trans rfl
                        have hcz29_2 : w18.cell? ⟨gb167, 2, none⟩ = some (.int .i64 t165) := (blk_cell BK167.out 2).trans rfl
                        have hfz29_0 := blk_frozen BK167.out 0
                        have hfz29_1 := blk_frozen BK167.out 1
                        have hfz29_2 := blk_frozen BK167.out 2
                        go_wp2_with (first | ((with_reducible refine gate_callee (f := 18) rfl ?_); refine goesL_ (some 45) rfl rfl Try.func18 (by kernel_rfl) rfl #[.agg #[.string t163, .int .i64 t164, .int .i64 t165]] rfl (by (try simp only [List.map_toArray, List.map_cons, List.map_nil]); first | done | rfl | (simp only [List.length_drop, List.length_take]; rfl)) ?_; (with_reducible refine (spec_PipeOk.calls t163 t164 t165 t170 _ A19.out).mono ?_); rintro e w30 ⟨rfl, hb⟩; refine ⟨_, rfl, ?_⟩; have n0_ := Aside0.mk (blk_below (g := gb167) (o := .cells #[.string t163, .int .i64 t164, .int .i64 t165] 25 (0, 0)) (by (with_reducible repeat (first | refine blk_drewN ?_ _ | refine blk_drew ?_ | refine blk_alloc ?_ _)); exact BK167.out) hb); have n1_ := Aside0.mk (below_step (by repeat (first | (with_reducible first | exact HB.out | apply below_alloc | apply pw_below_drewN | apply below_drew1 | refine below_set ?_ GE167.out) | exact HB.out)) hb); clear BK167; clear HB; have BK167 := n0_; have HB := n1_; clear n0_ n1_; (try clear hb); (try clear hb2); (try clear hk); (try clear hi); have hcz31_0 : w30.cell? ⟨gb167, 0, none⟩ = some (.string t163) := (blk_cell BK167.out 0).trans rfl; have hcz31_1 : w30.cell? ⟨gb167, 1, none⟩ = some (.int .i64 t164) := (blk_cell BK167.out 1).trans rfl; have hcz31_2 : w30.cell? ⟨gb167, 2, none⟩ = some (.int .i64 t165) := (blk_cell BK167.out 2).trans rfl; have hfz31_0 := blk_frozen BK167.out 0; have hfz31_1 := blk_frozen BK167.out 1; have hfz31_2 := blk_frozen BK167.out 2))
                        go_meet
                        case rel => exact ⟨_, (true), (by first | rfl | (simp; done) | (simp [*]; done)), H', ⟨by have := HJ2.out; first | omega | exact Nat.le_refl _⟩, ⟨by (with_reducible repeat (first | refine blk_drewN ?_ _ | refine blk_drew ?_ | refine blk_alloc ?_ _)); exact BK167.out⟩, ⟨by repeat (first | (with_reducible first | exact HB.out | apply below_alloc | apply pw_below_drewN | apply below_drew1 | refine below_set ?_ GE167.out) | exact HB.out)⟩⟩
                      · rw [if_neg c28] at H
                        have c28b0 : (t165 == 0) = false := beq_eq_false_iff_ne.mpr c28
                        have c28b1 : (t165 != 0) = true := bne_iff_ne.mpr c28
                        have H' := Aside0.mk H
                        clear H
                        have hcz32_0 : w18.cell? ⟨gb167, 0, none⟩ = some (.string t163) := (blk_cell BK167.out 0).trans rfl
                        have hcz32_1 : w18.cell? ⟨gb167, 1, none⟩ = some (.int .i64 t164) := (blk_cell BK167.out 1).trans rfl
                        have hcz32_2 : w18.cell? ⟨gb167, 2, none⟩ = some (.int .i64 t165) := (blk_cell BK167.out 2).trans rfl
                        have hfz32_0 := blk_frozen BK167.out 0
                        have hfz32_1 := blk_frozen BK167.out 1
                        have hfz32_2 := blk_frozen BK167.out 2
                        go_wp2_with (first | ((with_reducible refine gate_callee (f := 18) rfl ?_); refine goesL_ (some 45) rfl rfl Try.func18 (by kernel_rfl) rfl #[.agg #[.string t163, .int .i64 t164, .int .i64 t165]] rfl (by (try simp only [List.map_toArray, List.map_cons, List.map_nil]); first | done | rfl | (simp only [List.length_drop, List.length_take]; rfl)) ?_; (with_reducible refine (spec_PipeOk.calls t163 t164 t165 t170 _ A19.out).mono ?_); rintro e w33 ⟨rfl, hb⟩; refine ⟨_, rfl, ?_⟩; have n0_ := Aside0.mk (blk_below (g := gb167) (o := .cells #[.string t163, .int .i64 t164, .int .i64 t165] 25 (0, 0)) (by (with_reducible repeat (first | refine blk_drewN ?_ _ | refine blk_drew ?_ | refine blk_alloc ?_ _)); exact BK167.out) hb); have n1_ := Aside0.mk (below_step (by repeat (first | (with_reducible first | exact HB.out | apply below_alloc | apply pw_below_drewN | apply below_drew1 | refine below_set ?_ GE167.out) | exact HB.out)) hb); clear BK167; clear HB; have BK167 := n0_; have HB := n1_; clear n0_ n1_; (try clear hb); (try clear hb2); (try clear hk); (try clear hi); have hcz34_0 : w33.cell? ⟨gb167, 0, none⟩ = some (.string t163) := (blk_cell BK167.out 0).trans rfl; have hcz34_1 : w33.cell? ⟨gb167, 1, none⟩ = some (.int .i64 t164) := (blk_cell BK167.out 1).trans rfl; have hcz34_2 : w33.cell? ⟨gb167, 2, none⟩ = some (.int .i64 t165) := (blk_cell BK167.out 2).trans rfl; have hfz34_0 := blk_frozen BK167.out 0; have hfz34_1 := blk_frozen BK167.out 1; have hfz34_2 := blk_frozen BK167.out 2))
                        go_meet
                        case rel => exact ⟨_, ((t163.toList != ([] : List UInt8))), (by first | rfl | (simp; done) | (simp [*]; done) | (simp [*]; cases t163.toList <;> rfl)), H', ⟨by have := HJ2.out; first | omega | exact Nat.le_refl _⟩, ⟨by (with_reducible repeat (first | refine blk_drewN ?_ _ | refine blk_drew ?_ | refine blk_alloc ?_ _)); exact BK167.out⟩, ⟨by repeat (first | (with_reducible first | exact HB.out | apply below_alloc | apply pw_below_drewN | apply below_drew1 | refine below_set ?_ GE167.out) | exact HB.out)⟩⟩
                  · replace c23 := Bool.eq_false_iff.mpr c23
                    subst c23
                    have H1 : (laws_FnPipeWhole.j1 kj2 ((⟨#[97, 98]⟩ : ByteArray) ++ (strOfNums (l1.take ((ji7) : Int).toNat))) false true t163 t164 t165) = some r := by rw [if_neg (show ¬ (false = true) by decide)] at H; exact H
                    clear H
                    have H := H1
                    clear H1
                    have H' := Aside0.mk H
                    clear H
                    have hcz35_0 : w18.cell? ⟨gb167, 0, none⟩ = some (.string t163) := (blk_cell BK167.out 0).trans rfl
                    have hcz35_1 : w18.cell? ⟨gb167, 1, none⟩ = some (.int .i64 t164) := (blk_cell BK167.out 1).trans rfl
                    have hcz35_2 : w18.cell? ⟨gb167, 2, none⟩ = some (.int .i64 t165) := (blk_cell BK167.out 2).trans rfl
                    have hfz35_0 := blk_frozen BK167.out 0
                    have hfz35_1 := blk_frozen BK167.out 1
                    have hfz35_2 := blk_frozen BK167.out 2
                    go_wp2_with (first | ((with_reducible refine gate_callee (f := 18) rfl ?_); refine goesL_ (some 45) rfl rfl Try.func18 (by kernel_rfl) rfl #[.agg #[.string t163, .int .i64 t164, .int .i64 t165]] rfl (by (try simp only [List.map_toArray, List.map_cons, List.map_nil]); first | done | rfl | (simp only [List.length_drop, List.length_take]; rfl)) ?_; (with_reducible refine (spec_PipeOk.calls t163 t164 t165 t170 _ A19.out).mono ?_); rintro e w36 ⟨rfl, hb⟩; refine ⟨_, rfl, ?_⟩; have n0_ := Aside0.mk (blk_below (g := gb167) (o := .cells #[.string t163, .int .i64 t164, .int .i64 t165] 25 (0, 0)) (by (with_reducible repeat (first | refine blk_drewN ?_ _ | refine blk_drew ?_ | refine blk_alloc ?_ _)); exact BK167.out) hb); have n1_ := Aside0.mk (below_step (by repeat (first | (with_reducible first | exact HB.out | apply below_alloc | apply pw_below_drewN | apply below_drew1 | refine below_set ?_ GE167.out) | exact HB.out)) hb); clear BK167; clear HB; have BK167 := n0_; have HB := n1_; clear n0_ n1_; (try clear hb); (try clear hb2); (try clear hk); (try clear hi)))
                    go_meet
                    case rel => exact ⟨_, (true), (by first | rfl | (simp; done) | (simp [*]; done)), H', ⟨by have := HJ2.out; first | omega | exact Nat.le_refl _⟩, ⟨by (with_reducible repeat (first | refine blk_drewN ?_ _ | refine blk_drew ?_ | refine blk_alloc ?_ _)); exact BK167.out⟩, ⟨by repeat (first | (with_reducible first | exact HB.out | apply below_alloc | apply pw_below_drewN | apply below_drew1 | refine below_set ?_ GE167.out) | exact HB.out)⟩⟩
              case rest =>
                clear HC12
                try clear c1
                try clear hcv1
                try clear c2
                try clear p2
                try clear c4
                try clear c4b0
                try clear c4b1
                try clear c5
                try clear c6
                try clear c8
                try clear c8b0
                try clear c8b1
                try clear c9
                try clear c9b0
                try clear c9b1
                try clear c10
                try clear c10b0
                try clear c10b1
                try clear c10b2
                try clear c16
                try clear c17
                try clear hcv17
                try clear c18
                try clear c20
                try clear c20b0
                try clear c20b1
                try clear c20b2
                try clear c23
                try clear c24
                try clear c24b0
                try clear c24b1
                try clear c28
                try clear c28b0
                try clear c28b1
                try clear hcz15_0
                try clear hcz15_1
                try clear hcz15_2
                try clear hcz21_0
                try clear hcz21_1
                try clear hcz21_2
                try clear hcz25_0
                try clear hcz25_1
                try clear hcz25_2
                try clear hcz27_0
                try clear hcz27_1
                try clear hcz27_2
                try clear hcz29_0
                try clear hcz29_1
                try clear hcz29_2
                try clear hcz31_0
                try clear hcz31_1
                try clear hcz31_2
                try clear hcz32_0
                try clear hcz32_1
                try clear hcz32_2
                try clear hcz34_0
                try clear hcz34_1
                try clear hcz34_2
                try clear hcz35_0
                try clear hcz35_1
                try clear hcz35_2
                try clear hfz15_0
                try clear hfz15_1
                try clear hfz15_2
                try clear hfz21_0
                try clear hfz21_1
                try clear hfz21_2
                try clear hfz25_0
                try clear hfz25_1
                try clear hfz25_2
                try clear hfz27_0
                try clear hfz27_1
                try clear hfz27_2
                try clear hfz29_0
                try clear hfz29_1
                try clear hfz29_2
                try clear hfz31_0
                try clear hfz31_1
                try clear hfz31_2
                try clear hfz32_0
                try clear hfz32_1
                try clear hfz32_2
                try clear hfz34_0
                try clear hfz34_1
                try clear hfz34_2
                try clear hfz35_0
                try clear hfz35_1
                try clear hfz35_2
                try clear p2
                obtain ⟨kq, x65_11, rfl, HA, HJ11, BK167, HB⟩ := hcut
                cases kq with
                | zero => exact absurd HA.out (by simp [laws_FnPipeWhole.j1])
                | succ kj11 =>
                  have H := HA.out
                  clear HA
                  simp only [laws_FnPipeWhole.j1] at H
                  by_cases c37 : x65_11 = true
                  · subst c37
                    have H1 : ((spec_PipeOk.f t163 t164 t165).bind fun t171 => (some (t169 == t171))) = some r := by rw [if_pos rfl] at H; exact H
                    clear H
                    have H := H1
                    clear H1
                    replace H := Option.bind_eq_some_iff.mp H
                    obtain ⟨t171, A380, H⟩ := H
                    replace H : (some (t169 == t171)) = some r := H
                    have A38 := Aside0.mk A380
                    clear A380
                    obtain rfl := Option.some.inj H
                    simp only [Option.some.injEq, Prod.mk.injEq] at H
                    obtain ⟨rfl⟩ := H
                    have hcz39_0 : wc.cell? ⟨gb167, 0, none⟩ = some (.string t163) := (blk_cell BK167.out 0).trans rfl
                    have hcz39_1 : wc.cell? ⟨gb167, 1, none⟩ = some (.int .i64 t164) := (blk_cell BK167.out 1).trans rfl
                    have hcz39_2 : wc.cell? ⟨gb167, 2, none⟩ = some (.int .i64 t165) := (blk_cell BK167.out 2).trans rfl
                    have hfz39_0 := blk_frozen BK167.out 0
                    have hfz39_1 := blk_frozen BK167.out 1
                    have hfz39_2 := blk_frozen BK167.out 2
                    go_wp2_with (first | ((with_reducible refine gate_callee (f := 18) rfl ?_); refine goesL_ (some 68) rfl rfl Try.func18 (by kernel_rfl) rfl #[.agg #[.string t163, .int .i64 t164, .int .i64 t165]] rfl (by (try simp only [List.map_toArray, List.map_cons, List.map_nil]); first | done | rfl | (simp only [List.length_drop, List.length_take]; rfl)) ?_; (with_reducible refine (spec_PipeOk.calls t163 t164 t165 t171 _ A38.out).mono ?_); rintro e w40 ⟨rfl, hb⟩; refine ⟨_, rfl, ?_⟩; have n0_ := Aside0.mk (blk_below (g := gb167) (o := .cells #[.string t163, .int .i64 t164, .int .i64 t165] 25 (0, 0)) (by (with_reducible repeat (first | refine blk_drewN ?_ _ | refine blk_drew ?_ | refine blk_alloc ?_ _)); exact BK167.out) hb); have n1_ := Aside0.mk (below_step (by repeat (first | (with_reducible first | exact HB.out | apply below_alloc | apply pw_below_drewN | apply below_drew1 | refine below_set ?_ GE167.out) | exact HB.out)) hb); clear BK167; clear HB; have BK167 := n0_; have HB := n1_; clear n0_ n1_; (try clear hb); (try clear hb2); (try clear hk); (try clear hi)))
                    go_ret
                    exact ⟨by first | rfl | (simp [errW_none, errW_some] <;> rfl) | (simp only [← hji7]; first | rfl | (simp [errW_none, errW_some] <;> rfl)) | (simp [*, errW_none, errW_some] <;> rfl), by repeat (first | (with_reducible first | exact HB.out | apply below_alloc | apply pw_below_drewN | apply below_drew1 | refine below_set ?_ GE167.out) | exact HB.out)⟩
                  · replace c37 := Bool.eq_false_iff.mpr c37
                    subst c37
                    have H1 : ((impl_PipePut.f kj11 t163 t164 t165 ((⟨#[97, 98]⟩ : ByteArray) ++ (strOfNums (l1.take ((ji7) : Int).toNat)))).bind fun bt172 => ((impl_PipePut.f kj11 bt172.1 bt172.2.1 bt172.2.2.1 (⟨#[120, 121, 122]⟩ : ByteArray)).bind fun bt178 => ((impl_PipeTake.f kj11 bt178.1 bt178.2.1 bt178.2.2.1 (((⟨#[97, 98]⟩ : ByteArray) ++ (strOfNums (l1.take ((ji7) : Int).toNat))).size : Int)).bind fun bt184 => ((impl_PipeTake.f kj11 bt184.1 bt184.2.1 bt184.2.2.1 3).bind fun bt190 => (if bt172.2.2.2.2 = 0 then (if bt172.2.2.2.1 = (((⟨#[97, 98]⟩ : ByteArray) ++ (strOfNums (l1.take ((ji7) : Int).toNat))).size : Int) then (if bt178.2.2.2.2 = 0 then (if bt178.2.2.2.1 = 3 then (if bt184.2.2.2.2 = 0 then (if bt184.2.2.2.1.toList = ((⟨#[97, 98]⟩ : ByteArray) ++ (strOfNums (l1.take ((ji7) : Int).toNat))).toList then (if bt190.2.2.2.2 = 0 then (some (bt190.2.2.2.1.toList == ([120, 121, 122] : List UInt8))) else (some false)) else (some false)) else (some false)) else (some false)) else (some false)) else (some false)) else (some false)))))) = some r := by rw [if_neg (show ¬ (false = true) by decide)] at H; exact H
                    clear H
                    have H := H1
                    clear H1
                    replace H := Option.bind_eq_some_iff.mp H
                    obtain ⟨⟨t172, t173, t174, t175, t176⟩, A410, H⟩ := H
                    replace H : ((impl_PipePut.f kj11 t172 t173 t174 (⟨#[120, 121, 122]⟩ : ByteArray)).bind fun bt178 => ((impl_PipeTake.f kj11 bt178.1 bt178.2.1 bt178.2.2.1 (((⟨#[97, 98]⟩ : ByteArray) ++ (strOfNums (l1.take ((ji7) : Int).toNat))).size : Int)).bind fun bt184 => ((impl_PipeTake.f kj11 bt184.1 bt184.2.1 bt184.2.2.1 3).bind fun bt190 => (if t176 = 0 then (if t175 = (((⟨#[97, 98]⟩ : ByteArray) ++ (strOfNums (l1.take ((ji7) : Int).toNat))).size : Int) then (if bt178.2.2.2.2 = 0 then (if bt178.2.2.2.1 = 3 then (if bt184.2.2.2.2 = 0 then (if bt184.2.2.2.1.toList = ((⟨#[97, 98]⟩ : ByteArray) ++ (strOfNums (l1.take ((ji7) : Int).toNat))).toList then (if bt190.2.2.2.2 = 0 then (some (bt190.2.2.2.1.toList == ([120, 121, 122] : List UInt8))) else (some false)) else (some false)) else (some false)) else (some false)) else (some false)) else (some false)) else (some false))))) = some r := H
                    have A41 := Aside0.mk A410
                    clear A410
                    replace H := Option.bind_eq_some_iff.mp H
                    obtain ⟨⟨t178, t179, t180, t181, t182⟩, A420, H⟩ := H
                    replace H : ((impl_PipeTake.f kj11 t178 t179 t180 (((⟨#[97, 98]⟩ : ByteArray) ++ (strOfNums (l1.take ((ji7) : Int).toNat))).size : Int)).bind fun bt184 => ((impl_PipeTake.f kj11 bt184.1 bt184.2.1 bt184.2.2.1 3).bind fun bt190 => (if t176 = 0 then (if t175 = (((⟨#[97, 98]⟩ : ByteArray) ++ (strOfNums (l1.take ((ji7) : Int).toNat))).size : Int) then (if t182 = 0 then (if t181 = 3 then (if bt184.2.2.2.2 = 0 then (if bt184.2.2.2.1.toList = ((⟨#[97, 98]⟩ : ByteArray) ++ (strOfNums (l1.take ((ji7) : Int).toNat))).toList then (if bt190.2.2.2.2 = 0 then (some (bt190.2.2.2.1.toList == ([120, 121, 122] : List UInt8))) else (some false)) else (some false)) else (some false)) else (some false)) else (some false)) else (some false)) else (some false)))) = some r := H
                    have A42 := Aside0.mk A420
                    clear A420
                    replace H := Option.bind_eq_some_iff.mp H
                    obtain ⟨⟨t184, t185, t186, t187, t188⟩, A430, H⟩ := H
                    replace H : ((impl_PipeTake.f kj11 t184 t185 t186 3).bind fun bt190 => (if t176 = 0 then (if t175 = (((⟨#[97, 98]⟩ : ByteArray) ++ (strOfNums (l1.take ((ji7) : Int).toNat))).size : Int) then (if t182 = 0 then (if t181 = 3 then (if t188 = 0 then (if t187.toList = ((⟨#[97, 98]⟩ : ByteArray) ++ (strOfNums (l1.take ((ji7) : Int).toNat))).toList then (if bt190.2.2.2.2 = 0 then (some (bt190.2.2.2.1.toList == ([120, 121, 122] : List UInt8))) else (some false)) else (some false)) else (some false)) else (some false)) else (some false)) else (some false)) else (some false))) = some r := H
                    have A43 := Aside0.mk A430
                    clear A430
                    replace H := Option.bind_eq_some_iff.mp H
                    obtain ⟨⟨t190, t191, t192, t193, t194⟩, A440, H⟩ := H
                    replace H : (if t176 = 0 then (if t175 = (((⟨#[97, 98]⟩ : ByteArray) ++ (strOfNums (l1.take ((ji7) : Int).toNat))).size : Int) then (if t182 = 0 then (if t181 = 3 then (if t188 = 0 then (if t187.toList = ((⟨#[97, 98]⟩ : ByteArray) ++ (strOfNums (l1.take ((ji7) : Int).toNat))).toList then (if t194 = 0 then (some (t193.toList == ([120, 121, 122] : List UInt8))) else (some false)) else (some false)) else (some false)) else (some false)) else (some false)) else (some false)) else (some false)) = some r := H
                    have A44 := Aside0.mk A440
                    clear A440
                    by_cases c45 : t176 = 0
                    · rw [if_pos c45] at H
                      have c45b0 : (t176 == 0) = true := beq_iff_eq.mpr c45
                      have c45b1 : (t176 != 0) = false := bne_eq_false_iff_eq.mpr c45
                      clear c45
                      by_cases c46 : t175 = (((⟨#[97, 98]⟩ : ByteArray) ++ (strOfNums (l1.take ((ji7) : Int).toNat))).size : Int)
                      · rw [if_pos c46] at H
                        have c46b0 : (t175 == (((⟨#[97, 98]⟩ : ByteArray) ++ (strOfNums (l1.take ((ji7) : Int).toNat))).size : Int)) = true := beq_iff_eq.mpr c46
                        have c46b1 : (t175 != (((⟨#[97, 98]⟩ : ByteArray) ++ (strOfNums (l1.take ((ji7) : Int).toNat))).size : Int)) = false := bne_eq_false_iff_eq.mpr c46
                        clear c46
                        by_cases c47 : t182 = 0
                        · rw [if_pos c47] at H
                          have c47b0 : (t182 == 0) = true := beq_iff_eq.mpr c47
                          have c47b1 : (t182 != 0) = false := bne_eq_false_iff_eq.mpr c47
                          clear c47
                          by_cases c48 : t181 = 3
                          · rw [if_pos c48] at H
                            have c48b0 : (t181 == 3) = true := beq_iff_eq.mpr c48
                            have c48b1 : (t181 != 3) = false := bne_eq_false_iff_eq.mpr c48
                            clear c48
                            by_cases c49 : t188 = 0
                            · rw [if_pos c49] at H
                              have c49b0 : (t188 == 0) = true := beq_iff_eq.mpr c49
                              have c49b1 : (t188 != 0) = false := bne_eq_false_iff_eq.mpr c49
                              clear c49
                              by_cases c50 : t187.toList = ((⟨#[97, 98]⟩ : ByteArray) ++ (strOfNums (l1.take ((ji7) : Int).toNat))).toList
                              · rw [if_pos c50] at H
                                have c50b0 : (t187.toList == ((⟨#[97, 98]⟩ : ByteArray) ++ (strOfNums (l1.take ((ji7) : Int).toNat))).toList) = true := beq_iff_eq.mpr c50
                                have c50b1 : (t187.toList != ((⟨#[97, 98]⟩ : ByteArray) ++ (strOfNums (l1.take ((ji7) : Int).toNat))).toList) = false := bne_eq_false_iff_eq.mpr c50
                                clear c50
                                by_cases c51 : t194 = 0
                                · rw [if_pos c51] at H
                                  have c51b0 : (t194 == 0) = true := beq_iff_eq.mpr c51
                                  have c51b1 : (t194 != 0) = false := bne_eq_false_iff_eq.mpr c51
                                  clear c51
                                  obtain rfl := Option.some.inj H
                                  simp only [Option.some.injEq, Prod.mk.injEq] at H
                                  obtain ⟨rfl⟩ := H
                                  have hcz52_0 : wc.cell? ⟨gb167, 0, none⟩ = some (.string t163) := (blk_cell BK167.out 0).trans rfl
                                  have hcz52_1 : wc.cell? ⟨gb167, 1, none⟩ = some (.int .i64 t164) := (blk_cell BK167.out 1).trans rfl
                                  have hcz52_2 : wc.cell? ⟨gb167, 2, none⟩ = some (.int .i64 t165) := (blk_cell BK167.out 2).trans rfl
                                  have hfz52_0 := blk_frozen BK167.out 0
                                  have hfz52_1 := blk_frozen BK167.out 1
                                  have hfz52_2 := blk_frozen BK167.out 2
                                  go_wp2_with (first | ((with_reducible refine gate_callee (f := 15) rfl ?_); refine goesL_ (some 73) rfl rfl Try.func15 (by kernel_rfl) rfl #[.agg #[.string t163, .int .i64 t164, .int .i64 t165], .string ((⟨#[97, 98]⟩ : ByteArray) ++ (strOfNums (l1.take ((ji7) : Int).toNat)))] rfl (by (try simp only [List.map_toArray, List.map_cons, List.map_nil]); first | done | (simp only [hji7]; rfl) | rfl | (simp only [ByteArray.size_append, Int.natCast_add]; rfl) | (simp only [List.length_drop, List.length_take]; rfl)) ?_; (with_reducible refine (impl_PipePut.calls kj11 t163 t164 t165 ((⟨#[97, 98]⟩ : ByteArray) ++ (strOfNums (l1.take ((ji7) : Int).toNat))) t172 t173 t174 t175 t176 _ A41.out).mono ?_); rintro e w53 ⟨rfl, hb⟩; refine ⟨_, rfl, ?_⟩; have n0_ := Aside0.mk (blk_below (g := gb167) (o := .cells #[.string t163, .int .i64 t164, .int .i64 t165] 25 (0, 0)) (by (with_reducible repeat (first | refine blk_drewN ?_ _ | refine blk_drew ?_ | refine blk_alloc ?_ _)); exact BK167.out) hb); have n1_ := Aside0.mk (below_step (by repeat (first | (with_reducible first | exact HB.out | apply below_alloc | apply pw_below_drewN | apply below_drew1 | refine below_set ?_ GE167.out) | exact HB.out)) hb); clear BK167; clear HB; have BK167 := n0_; have HB := n1_; clear n0_ n1_; (try clear hb); (try clear hb2); (try clear hk); (try clear hi)) | ((with_reducible refine gate_dst (N := 9) rfl ?_); (try (refine gate_guard (by rfl) ?_; dsimp only)); refine box_event ?hg (N := 9) ?hd (cs := #[.string (⟨#[]⟩ : ByteArray), .int .i64 0, .int .i64 0]) (t := 25) ?hr ?_; (case hd => rfl); (case hg => rfl); (case hr => first | (go_simp; done) | (go_simp; rfl)); intro gb177 hg w54 hbox hb; have n0_ := Aside0.mk (blk_below (g := gb167) (o := .cells #[.string t163, .int .i64 t164, .int .i64 t165] 25 (0, 0)) (by (with_reducible repeat (first | refine blk_drewN ?_ _ | refine blk_drew ?_ | refine blk_alloc ?_ _)); exact BK167.out) hb); have n1_ := Aside0.mk (below_step (by repeat (first | (with_reducible first | exact HB.out | apply below_alloc | apply pw_below_drewN | apply below_drew1 | refine below_set ?_ GE167.out) | exact HB.out)) hb); have n2_ := Aside0.mk (hbox); have n3_ := Aside0.mk ((by rw [hg]; exact (below_size (by repeat (first | (with_reducible first | exact HB.out | apply below_alloc | apply pw_below_drewN | apply below_drew1 | refine below_set ?_ GE167.out) | exact HB.out))) : w.heap.size ≤ gb177)); have n4_ := Aside0.mk ((by rw [hg]; exact (below_size (by repeat (first | (with_reducible first | exact HB.out | apply below_alloc | apply pw_below_drewN | apply below_drew1 | refine below_set ?_ GE167.out) | exact HB.out))) : w.heap.size ≤ gb177)); have n5_ := Aside0.mk ((by rw [hg]; exact Nat.ne_of_lt (blk_lt (g := gb167) (o := .cells #[.string t163, .int .i64 t164, .int .i64 t165] 25 (0, 0)) (by (with_reducible repeat (first | refine blk_drewN ?_ _ | refine blk_drew ?_ | refine blk_alloc ?_ _)); exact BK167.out)) : gb167 ≠ gb177)); have n6_ := Aside0.mk ((by rw [hg]; exact Nat.ne_of_gt (blk_lt (g := gb167) (o := .cells #[.string t163, .int .i64 t164, .int .i64 t165] 25 (0, 0)) (by (with_reducible repeat (first | refine blk_drewN ?_ _ | refine blk_drew ?_ | refine blk_alloc ?_ _)); exact BK167.out)) : gb177 ≠ gb167)); clear BK167; clear HB; have BK167 := n0_; have HB := n1_; have BK177 := n2_; have GW177 := n3_; have GE177 := n4_; have NB167_177 := n5_; have NB177_167 := n6_; clear n0_ n1_ n2_ n3_ n4_ n5_ n6_; clear hb hbox hg; have hnb55 := NB177_167.out; have hnc55 := NB167_177.out; have hcz56_0 : w54.cell? ⟨gb177, 0, none⟩ = some (.string (⟨#[]⟩ : ByteArray)) := (blk_cell BK177.out 0).trans rfl; have hcz56_1 : w54.cell? ⟨gb177, 1, none⟩ = some (.int .i64 0) := (blk_cell BK177.out 1).trans rfl; have hcz56_2 : w54.cell? ⟨gb177, 2, none⟩ = some (.int .i64 0) := (blk_cell BK177.out 2).trans rfl; have hfz56_0 := blk_frozen BK177.out 0; have hfz56_1 := blk_frozen BK177.out 1; have hfz56_2 := blk_frozen BK177.out 2) | ((with_reducible refine gate_callee (f := 15) rfl ?_); refine goesL_ (some 79) rfl rfl Try.func15 (by kernel_rfl) rfl #[.agg #[.string t172, .int .i64 t173, .int .i64 t174], .string (⟨#[120, 121, 122]⟩ : ByteArray)] rfl (by (try simp only [List.map_toArray, List.map_cons, List.map_nil]); first | done | rfl | (simp only [List.length_drop, List.length_take]; rfl)) ?_; (with_reducible refine (impl_PipePut.calls kj11 t172 t173 t174 (⟨#[120, 121, 122]⟩ : ByteArray) t178 t179 t180 t181 t182 _ A42.out).mono ?_); rintro e w57 ⟨rfl, hb⟩; refine ⟨_, rfl, ?_⟩; have n0_ := Aside0.mk (blk_below (g := gb167) (o := .cells #[.string t163, .int .i64 t164, .int .i64 t165] 25 (0, 0)) (by (with_reducible repeat (first | refine blk_drewN ?_ _ | refine blk_drew ?_ | refine blk_alloc ?_ _)); refine blk_far ?_ NB167_177.out _; (with_reducible repeat (first | refine blk_drewN ?_ _ | refine blk_drew ?_ | refine blk_alloc ?_ _)); refine blk_far ?_ NB167_177.out _; (with_reducible repeat (first | refine blk_drewN ?_ _ | refine blk_drew ?_ | refine blk_alloc ?_ _)); refine blk_far ?_ NB167_177.out _; (with_reducible repeat (first | refine blk_drewN ?_ _ | refine blk_drew ?_ | refine blk_alloc ?_ _)); exact BK167.out) hb); have n1_ := Aside0.mk (blk_below (g := gb177) (o := .cells #[.string t172, .int .i64 t173, .int .i64 t174] 25 (0, 0)) (by (with_reducible repeat (first | refine blk_drewN ?_ _ | refine blk_drew ?_ | refine blk_alloc ?_ _)); refine blk_put (cs := #[.string t172, .int .i64 t173, .int .i64 0]) ?_ 2 _ rfl; (with_reducible repeat (first | refine blk_drewN ?_ _ | refine blk_drew ?_ | refine blk_alloc ?_ _)); refine blk_put (cs := #[.string t172, .int .i64 0, .int .i64 0]) ?_ 1 _ rfl; (with_reducible repeat (first | refine blk_drewN ?_ _ | refine blk_drew ?_ | refine blk_alloc ?_ _)); refine blk_put (cs := #[.string (⟨#[]⟩ : ByteArray), .int .i64 0, .int .i64 0]) ?_ 0 _ rfl; (with_reducible repeat (first | refine blk_drewN ?_ _ | refine blk_drew ?_ | refine blk_alloc ?_ _)); exact BK177.out) hb); have n2_ := Aside0.mk (below_step (by repeat (first | (with_reducible first | exact HB.out | apply below_alloc | apply pw_below_drewN | apply below_drew1 | refine below_set ?_ GE167.out | refine below_set ?_ GE177.out) | exact HB.out)) hb); clear BK167; clear BK177; clear HB; have BK167 := n0_; have BK177 := n1_; have HB := n2_; clear n0_ n1_ n2_; (try clear hb); (try clear hb2); (try clear hk); (try clear hi)) | ((with_reducible refine gate_dst (N := 12) rfl ?_); (try (refine gate_guard (by rfl) ?_; dsimp only)); refine box_event ?hg (N := 12) ?hd (cs := #[.string (⟨#[]⟩ : ByteArray), .int .i64 0, .int .i64 0]) (t := 25) ?hr ?_; (case hd => rfl); (case hg => rfl); (case hr => first | (go_simp; done) | (go_simp; rfl)); intro gb183 hg w58 hbox hb; have n0_ := Aside0.mk (blk_below (g := gb167) (o := .cells #[.string t163, .int .i64 t164, .int .i64 t165] 25 (0, 0)) (by (with_reducible repeat (first | refine blk_drewN ?_ _ | refine blk_drew ?_ | refine blk_alloc ?_ _)); exact BK167.out) hb); have n1_ := Aside0.mk (blk_below (g := gb177) (o := .cells #[.string t172, .int .i64 t173, .int .i64 t174] 25 (0, 0)) (by (with_reducible repeat (first | refine blk_drewN ?_ _ | refine blk_drew ?_ | refine blk_alloc ?_ _)); exact BK177.out) hb); have n2_ := Aside0.mk (below_step (by repeat (first | (with_reducible first | exact HB.out | apply below_alloc | apply pw_below_drewN | apply below_drew1 | refine below_set ?_ GE167.out | refine below_set ?_ GE177.out) | exact HB.out)) hb); have n3_ := Aside0.mk (hbox); have n4_ := Aside0.mk ((by rw [hg]; exact (below_size (by repeat (first | (with_reducible first | exact HB.out | apply below_alloc | apply pw_below_drewN | apply below_drew1 | refine below_set ?_ GE167.out | refine below_set ?_ GE177.out) | exact HB.out))) : w.heap.size ≤ gb183)); have n5_ := Aside0.mk ((by rw [hg]; exact (below_size (by repeat (first | (with_reducible first | exact HB.out | apply below_alloc | apply pw_below_drewN | apply below_drew1 | refine below_set ?_ GE167.out | refine below_set ?_ GE177.out) | exact HB.out))) : w.heap.size ≤ gb183)); have n6_ := Aside0.mk ((by rw [hg]; exact Nat.ne_of_lt (blk_lt (g := gb167) (o := .cells #[.string t163, .int .i64 t164, .int .i64 t165] 25 (0, 0)) (by (with_reducible repeat (first | refine blk_drewN ?_ _ | refine blk_drew ?_ | refine blk_alloc ?_ _)); exact BK167.out)) : gb167 ≠ gb183)); have n7_ := Aside0.mk ((by rw [hg]; exact Nat.ne_of_gt (blk_lt (g := gb167) (o := .cells #[.string t163, .int .i64 t164, .int .i64 t165] 25 (0, 0)) (by (with_reducible repeat (first | refine blk_drewN ?_ _ | refine blk_drew ?_ | refine blk_alloc ?_ _)); exact BK167.out)) : gb183 ≠ gb167)); have n8_ := Aside0.mk ((by rw [hg]; exact Nat.ne_of_lt (blk_lt (g := gb177) (o := .cells #[.string t172, .int .i64 t173, .int .i64 t174] 25 (0, 0)) (by (with_reducible repeat (first | refine blk_drewN ?_ _ | refine blk_drew ?_ | refine blk_alloc ?_ _)); exact BK177.out)) : gb177 ≠ gb183)); have n9_ := Aside0.mk ((by rw [hg]; exact Nat.ne_of_gt (blk_lt (g := gb177) (o := .cells #[.string t172, .int .i64 t173, .int .i64 t174] 25 (0, 0)) (by (with_reducible repeat (first | refine blk_drewN ?_ _ | refine blk_drew ?_ | refine blk_alloc ?_ _)); exact BK177.out)) : gb183 ≠ gb177)); clear BK167; clear BK177; clear HB; have BK167 := n0_; have BK177 := n1_; have HB := n2_; have BK183 := n3_; have GW183 := n4_; have GE183 := n5_; have NB167_183 := n6_; have NB183_167 := n7_; have NB177_183 := n8_; have NB183_177 := n9_; clear n0_ n1_ n2_ n3_ n4_ n5_ n6_ n7_ n8_ n9_; clear hb hbox hg; have hnb59 := NB183_167.out; have hnc59 := NB167_183.out; have hnb60 := NB183_177.out; have hnc60 := NB177_183.out; have hcz61_0 : w58.cell? ⟨gb183, 0, none⟩ = some (.string (⟨#[]⟩ : ByteArray)) := (blk_cell BK183.out 0).trans rfl; have hcz61_1 : w58.cell? ⟨gb183, 1, none⟩ = some (.int .i64 0) := (blk_cell BK183.out 1).trans rfl; have hcz61_2 : w58.cell? ⟨gb183, 2, none⟩ = some (.int .i64 0) := (blk_cell BK183.out 2).trans rfl; have hfz61_0 := blk_frozen BK183.out 0; have hfz61_1 := blk_frozen BK183.out 1; have hfz61_2 := blk_frozen BK183.out 2) | ((with_reducible refine gate_callee (f := 12) rfl ?_); refine goesL_ (some 87) rfl rfl Try.func12 (by kernel_rfl) rfl #[.agg #[.string t178, .int .i64 t179, .int .i64 t180], .int .i64 (((⟨#[97, 98]⟩ : ByteArray) ++ (strOfNums (l1.take ((ji7) : Int).toNat))).size : Int)] rfl (by (try simp only [List.map_toArray, List.map_cons, List.map_nil]); first | done | (simp only [hji7]; rfl) | rfl | (simp only [ByteArray.size_append, Int.natCast_add]; rfl) | (simp only [List.length_drop, List.length_take]; rfl)) ?_; (with_reducible refine (impl_PipeTake.calls kj11 t178 t179 t180 (((⟨#[97, 98]⟩ : ByteArray) ++ (strOfNums (l1.take ((ji7) : Int).toNat))).size : Int) t184 t185 t186 t187 t188 _ A43.out).mono ?_); rintro e w62 ⟨rfl, hb⟩; refine ⟨_, rfl, ?_⟩; have n0_ := Aside0.mk (blk_below (g := gb167) (o := .cells #[.string t163, .int .i64 t164, .int .i64 t165] 25 (0, 0)) (by (with_reducible repeat (first | refine blk_drewN ?_ _ | refine blk_drew ?_ | refine blk_alloc ?_ _)); refine blk_far ?_ NB167_183.out _; (with_reducible repeat (first | refine blk_drewN ?_ _ | refine blk_drew ?_ | refine blk_alloc ?_ _)); refine blk_far ?_ NB167_183.out _; (with_reducible repeat (first | refine blk_drewN ?_ _ | refine blk_drew ?_ | refine blk_alloc ?_ _)); refine blk_far ?_ NB167_183.out _; (with_reducible repeat (first | refine blk_drewN ?_ _ | refine blk_drew ?_ | refine blk_alloc ?_ _)); exact BK167.out) hb); have n1_ := Aside0.mk (blk_below (g := gb177) (o := .cells #[.string t172, .int .i64 t173, .int .i64 t174] 25 (0, 0)) (by (with_reducible repeat (first | refine blk_drewN ?_ _ | refine blk_drew ?_ | refine blk_alloc ?_ _)); refine blk_far ?_ NB177_183.out _; (with_reducible repeat (first | refine blk_drewN ?_ _ | refine blk_drew ?_ | refine blk_alloc ?_ _)); refine blk_far ?_ NB177_183.out _; (with_reducible repeat (first | refine blk_drewN ?_ _ | refine blk_drew ?_ | refine blk_alloc ?_ _)); refine blk_far ?_ NB177_183.out _; (with_reducible repeat (first | refine blk_drewN ?_ _ | refine blk_drew ?_ | refine blk_alloc ?_ _)); exact BK177.out) hb); have n2_ := Aside0.mk (blk_below (g := gb183) (o := .cells #[.string t178, .int .i64 t179, .int .i64 t180] 25 (0, 0)) (by (with_reducible repeat (first | refine blk_drewN ?_ _ | refine blk_drew ?_ | refine blk_alloc ?_ _)); refine blk_put (cs := #[.string t178, .int .i64 t179, .int .i64 0]) ?_ 2 _ rfl; (with_reducible repeat (first | refine blk_drewN ?_ _ | refine blk_drew ?_ | refine blk_alloc ?_ _)); refine blk_put (cs := #[.string t178, .int .i64 0, .int .i64 0]) ?_ 1 _ rfl; (with_reducible repeat (first | refine blk_drewN ?_ _ | refine blk_drew ?_ | refine blk_alloc ?_ _)); refine blk_put (cs := #[.string (⟨#[]⟩ : ByteArray), .int .i64 0, .int .i64 0]) ?_ 0 _ rfl; (with_reducible repeat (first | refine blk_drewN ?_ _ | refine blk_drew ?_ | refine blk_alloc ?_ _)); exact BK183.out) hb); have n3_ := Aside0.mk (below_step (by repeat (first | (with_reducible first | exact HB.out | apply below_alloc | apply pw_below_drewN | apply below_drew1 | refine below_set ?_ GE167.out | refine below_set ?_ GE177.out | refine below_set ?_ GE183.out) | exact HB.out)) hb); clear BK167; clear BK177; clear BK183; clear HB; have BK167 := n0_; have BK177 := n1_; have BK183 := n2_; have HB := n3_; clear n0_ n1_ n2_ n3_; (try clear hb); (try clear hb2); (try clear hk); (try clear hi)) | ((with_reducible refine gate_dst (N := 15) rfl ?_); (try (refine gate_guard (by rfl) ?_; dsimp only)); refine box_event ?hg (N := 15) ?hd (cs := #[.string (⟨#[]⟩ : ByteArray), .int .i64 0, .int .i64 0]) (t := 25) ?hr ?_; (case hd => rfl); (case hg => rfl); (case hr => first | (go_simp; done) | (go_simp; rfl)); intro gb189 hg w63 hbox hb; have n0_ := Aside0.mk (blk_below (g := gb167) (o := .cells #[.string t163, .int .i64 t164, .int .i64 t165] 25 (0, 0)) (by (with_reducible repeat (first | refine blk_drewN ?_ _ | refine blk_drew ?_ | refine blk_alloc ?_ _)); exact BK167.out) hb); have n1_ := Aside0.mk (blk_below (g := gb177) (o := .cells #[.string t172, .int .i64 t173, .int .i64 t174] 25 (0, 0)) (by (with_reducible repeat (first | refine blk_drewN ?_ _ | refine blk_drew ?_ | refine blk_alloc ?_ _)); exact BK177.out) hb); have n2_ := Aside0.mk (blk_below (g := gb183) (o := .cells #[.string t178, .int .i64 t179, .int .i64 t180] 25 (0, 0)) (by (with_reducible repeat (first | refine blk_drewN ?_ _ | refine blk_drew ?_ | refine blk_alloc ?_ _)); exact BK183.out) hb); have n3_ := Aside0.mk (below_step (by repeat (first | (with_reducible first | exact HB.out | apply below_alloc | apply pw_below_drewN | apply below_drew1 | refine below_set ?_ GE167.out | refine below_set ?_ GE177.out | refine below_set ?_ GE183.out) | exact HB.out)) hb); have n4_ := Aside0.mk (hbox); have n5_ := Aside0.mk ((by rw [hg]; exact (below_size (by repeat (first | (with_reducible first | exact HB.out | apply below_alloc | apply pw_below_drewN | apply below_drew1 | refine below_set ?_ GE167.out | refine below_set ?_ GE177.out | refine below_set ?_ GE183.out) | exact HB.out))) : w.heap.size ≤ gb189)); have n6_ := Aside0.mk ((by rw [hg]; exact (below_size (by repeat (first | (with_reducible first | exact HB.out | apply below_alloc | apply pw_below_drewN | apply below_drew1 | refine below_set ?_ GE167.out | refine below_set ?_ GE177.out | refine below_set ?_ GE183.out) | exact HB.out))) : w.heap.size ≤ gb189)); have n7_ := Aside0.mk ((by rw [hg]; exact Nat.ne_of_lt (blk_lt (g := gb167) (o := .cells #[.string t163, .int .i64 t164, .int .i64 t165] 25 (0, 0)) (by (with_reducible repeat (first | refine blk_drewN ?_ _ | refine blk_drew ?_ | refine blk_alloc ?_ _)); exact BK167.out)) : gb167 ≠ gb189)); have n8_ := Aside0.mk ((by rw [hg]; exact Nat.ne_of_gt (blk_lt (g := gb167) (o := .cells #[.string t163, .int .i64 t164, .int .i64 t165] 25 (0, 0)) (by (with_reducible repeat (first | refine blk_drewN ?_ _ | refine blk_drew ?_ | refine blk_alloc ?_ _)); exact BK167.out)) : gb189 ≠ gb167)); have n9_ := Aside0.mk ((by rw [hg]; exact Nat.ne_of_lt (blk_lt (g := gb177) (o := .cells #[.string t172, .int .i64 t173, .int .i64 t174] 25 (0, 0)) (by (with_reducible repeat (first | refine blk_drewN ?_ _ | refine blk_drew ?_ | refine blk_alloc ?_ _)); exact BK177.out)) : gb177 ≠ gb189)); have n10_ := Aside0.mk ((by rw [hg]; exact Nat.ne_of_gt (blk_lt (g := gb177) (o := .cells #[.string t172, .int .i64 t173, .int .i64 t174] 25 (0, 0)) (by (with_reducible repeat (first | refine blk_drewN ?_ _ | refine blk_drew ?_ | refine blk_alloc ?_ _)); exact BK177.out)) : gb189 ≠ gb177)); have n11_ := Aside0.mk ((by rw [hg]; exact Nat.ne_of_lt (blk_lt (g := gb183) (o := .cells #[.string t178, .int .i64 t179, .int .i64 t180] 25 (0, 0)) (by (with_reducible repeat (first | refine blk_drewN ?_ _ | refine blk_drew ?_ | refine blk_alloc ?_ _)); exact BK183.out)) : gb183 ≠ gb189)); have n12_ := Aside0.mk ((by rw [hg]; exact Nat.ne_of_gt (blk_lt (g := gb183) (o := .cells #[.string t178, .int .i64 t179, .int .i64 t180] 25 (0, 0)) (by (with_reducible repeat (first | refine blk_drewN ?_ _ | refine blk_drew ?_ | refine blk_alloc ?_ _)); exact BK183.out)) : gb189 ≠ gb183)); clear BK167; clear BK177; clear BK183; clear HB; have BK167 := n0_; have BK177 := n1_; have BK183 := n2_; have HB := n3_; have BK189 := n4_; have GW189 := n5_; have GE189 := n6_; have NB167_189 := n7_; have NB189_167 := n8_; have NB177_189 := n9_; have NB189_177 := n10_; have NB183_189 := n11_; have NB189_183 := n12_; clear n0_ n1_ n2_ n3_ n4_ n5_ n6_ n7_ n8_ n9_ n10_ n11_ n12_; clear hb hbox hg; have hnb64 := NB189_167.out; have hnc64 := NB167_189.out; have hnb65 := NB189_177.out; have hnc65 := NB177_189.out; have hnb66 := NB189_183.out; have hnc66 := NB183_189.out; have hcz67_0 : w63.cell? ⟨gb189, 0, none⟩ = some (.string (⟨#[]⟩ : ByteArray)) := (blk_cell BK189.out 0).trans rfl; have hcz67_1 : w63.cell? ⟨gb189, 1, none⟩ = some (.int .i64 0) := (blk_cell BK189.out 1).trans rfl; have hcz67_2 : w63.cell? ⟨gb189, 2, none⟩ = some (.int .i64 0) := (blk_cell BK189.out 2).trans rfl; have hfz67_0 := blk_frozen BK189.out 0; have hfz67_1 := blk_frozen BK189.out 1; have hfz67_2 := blk_frozen BK189.out 2) | ((with_reducible refine gate_callee (f := 12) rfl ?_); refine goesL_ (some 93) rfl rfl Try.func12 (by kernel_rfl) rfl #[.agg #[.string t184, .int .i64 t185, .int .i64 t186], .int .i64 3] rfl (by (try simp only [List.map_toArray, List.map_cons, List.map_nil]); first | done | rfl | (simp only [List.length_drop, List.length_take]; rfl)) ?_; (with_reducible refine (impl_PipeTake.calls kj11 t184 t185 t186 3 t190 t191 t192 t193 t194 _ A44.out).mono ?_); rintro e w68 ⟨rfl, hb⟩; refine ⟨_, rfl, ?_⟩; have n0_ := Aside0.mk (blk_below (g := gb167) (o := .cells #[.string t163, .int .i64 t164, .int .i64 t165] 25 (0, 0)) (by (with_reducible repeat (first | refine blk_drewN ?_ _ | refine blk_drew ?_ | refine blk_alloc ?_ _)); refine blk_far ?_ NB167_189.out _; (with_reducible repeat (first | refine blk_drewN ?_ _ | refine blk_drew ?_ | refine blk_alloc ?_ _)); refine blk_far ?_ NB167_189.out _; (with_reducible repeat (first | refine blk_drewN ?_ _ | refine blk_drew ?_ | refine blk_alloc ?_ _)); refine blk_far ?_ NB167_189.out _; (with_reducible repeat (first | refine blk_drewN ?_ _ | refine blk_drew ?_ | refine blk_alloc ?_ _)); exact BK167.out) hb); have n1_ := Aside0.mk (blk_below (g := gb177) (o := .cells #[.string t172, .int .i64 t173, .int .i64 t174] 25 (0, 0)) (by (with_reducible repeat (first | refine blk_drewN ?_ _ | refine blk_drew ?_ | refine blk_alloc ?_ _)); refine blk_far ?_ NB177_189.out _; (with_reducible repeat (first | refine blk_drewN ?_ _ | refine blk_drew ?_ | refine blk_alloc ?_ _)); refine blk_far ?_ NB177_189.out _; (with_reducible repeat (first | refine blk_drewN ?_ _ | refine blk_drew ?_ | refine blk_alloc ?_ _)); refine blk_far ?_ NB177_189.out _; (with_reducible repeat (first | refine blk_drewN ?_ _ | refine blk_drew ?_ | refine blk_alloc ?_ _)); exact BK177.out) hb); have n2_ := Aside0.mk (blk_below (g := gb183) (o := .cells #[.string t178, .int .i64 t179, .int .i64 t180] 25 (0, 0)) (by (with_reducible repeat (first | refine blk_drewN ?_ _ | refine blk_drew ?_ | refine blk_alloc ?_ _)); refine blk_far ?_ NB183_189.out _; (with_reducible repeat (first | refine blk_drewN ?_ _ | refine blk_drew ?_ | refine blk_alloc ?_ _)); refine blk_far ?_ NB183_189.out _; (with_reducible repeat (first | refine blk_drewN ?_ _ | refine blk_drew ?_ | refine blk_alloc ?_ _)); refine blk_far ?_ NB183_189.out _; (with_reducible repeat (first | refine blk_drewN ?_ _ | refine blk_drew ?_ | refine blk_alloc ?_ _)); exact BK183.out) hb); have n3_ := Aside0.mk (blk_below (g := gb189) (o := .cells #[.string t184, .int .i64 t185, .int .i64 t186] 25 (0, 0)) (by (with_reducible repeat (first | refine blk_drewN ?_ _ | refine blk_drew ?_ | refine blk_alloc ?_ _)); refine blk_put (cs := #[.string t184, .int .i64 t185, .int .i64 0]) ?_ 2 _ rfl; (with_reducible repeat (first | refine blk_drewN ?_ _ | refine blk_drew ?_ | refine blk_alloc ?_ _)); refine blk_put (cs := #[.string t184, .int .i64 0, .int .i64 0]) ?_ 1 _ rfl; (with_reducible repeat (first | refine blk_drewN ?_ _ | refine blk_drew ?_ | refine blk_alloc ?_ _)); refine blk_put (cs := #[.string (⟨#[]⟩ : ByteArray), .int .i64 0, .int .i64 0]) ?_ 0 _ rfl; (with_reducible repeat (first | refine blk_drewN ?_ _ | refine blk_drew ?_ | refine blk_alloc ?_ _)); exact BK189.out) hb); have n4_ := Aside0.mk (below_step (by repeat (first | (with_reducible first | exact HB.out | apply below_alloc | apply pw_below_drewN | apply below_drew1 | refine below_set ?_ GE167.out | refine below_set ?_ GE177.out | refine below_set ?_ GE183.out | refine below_set ?_ GE189.out) | exact HB.out)) hb); clear BK167; clear BK177; clear BK183; clear BK189; clear HB; have BK167 := n0_; have BK177 := n1_; have BK183 := n2_; have BK189 := n3_; have HB := n4_; clear n0_ n1_ n2_ n3_ n4_; (try clear hb); (try clear hb2); (try clear hk); (try clear hi)) | ((with_reducible refine gate_dst (N := 18) rfl ?_); (try (refine gate_guard (by rfl) ?_; dsimp only)); refine box_event ?hg (N := 18) ?hd (cs := #[.string (⟨#[]⟩ : ByteArray), .int .i64 0, .int .i64 0]) (t := 25) ?hr ?_; (case hd => rfl); (case hg => rfl); (case hr => first | (go_simp; done) | (go_simp; rfl)); intro gb195 hg w69 hbox hb; have n0_ := Aside0.mk (blk_below (g := gb167) (o := .cells #[.string t163, .int .i64 t164, .int .i64 t165] 25 (0, 0)) (by (with_reducible repeat (first | refine blk_drewN ?_ _ | refine blk_drew ?_ | refine blk_alloc ?_ _)); exact BK167.out) hb); have n1_ := Aside0.mk (blk_below (g := gb177) (o := .cells #[.string t172, .int .i64 t173, .int .i64 t174] 25 (0, 0)) (by (with_reducible repeat (first | refine blk_drewN ?_ _ | refine blk_drew ?_ | refine blk_alloc ?_ _)); exact BK177.out) hb); have n2_ := Aside0.mk (blk_below (g := gb183) (o := .cells #[.string t178, .int .i64 t179, .int .i64 t180] 25 (0, 0)) (by (with_reducible repeat (first | refine blk_drewN ?_ _ | refine blk_drew ?_ | refine blk_alloc ?_ _)); exact BK183.out) hb); have n3_ := Aside0.mk (blk_below (g := gb189) (o := .cells #[.string t184, .int .i64 t185, .int .i64 t186] 25 (0, 0)) (by (with_reducible repeat (first | refine blk_drewN ?_ _ | refine blk_drew ?_ | refine blk_alloc ?_ _)); exact BK189.out) hb); have n4_ := Aside0.mk (below_step (by repeat (first | (with_reducible first | exact HB.out | apply below_alloc | apply pw_below_drewN | apply below_drew1 | refine below_set ?_ GE167.out | refine below_set ?_ GE177.out | refine below_set ?_ GE183.out | refine below_set ?_ GE189.out) | exact HB.out)) hb); have n5_ := Aside0.mk (hbox); have n6_ := Aside0.mk ((by rw [hg]; exact (below_size (by repeat (first | (with_reducible first | exact HB.out | apply below_alloc | apply pw_below_drewN | apply below_drew1 | refine below_set ?_ GE167.out | refine below_set ?_ GE177.out | refine below_set ?_ GE183.out | refine below_set ?_ GE189.out) | exact HB.out))) : w.heap.size ≤ gb195)); have n7_ := Aside0.mk ((by rw [hg]; exact (below_size (by repeat (first | (with_reducible first | exact HB.out | apply below_alloc | apply pw_below_drewN | apply below_drew1 | refine below_set ?_ GE167.out | refine below_set ?_ GE177.out | refine below_set ?_ GE183.out | refine below_set ?_ GE189.out) | exact HB.out))) : w.heap.size ≤ gb195)); have n8_ := Aside0.mk ((by rw [hg]; exact Nat.ne_of_lt (blk_lt (g := gb167) (o := .cells #[.string t163, .int .i64 t164, .int .i64 t165] 25 (0, 0)) (by (with_reducible repeat (first | refine blk_drewN ?_ _ | refine blk_drew ?_ | refine blk_alloc ?_ _)); exact BK167.out)) : gb167 ≠ gb195)); have n9_ := Aside0.mk ((by rw [hg]; exact Nat.ne_of_gt (blk_lt (g := gb167) (o := .cells #[.string t163, .int .i64 t164, .int .i64 t165] 25 (0, 0)) (by (with_reducible repeat (first | refine blk_drewN ?_ _ | refine blk_drew ?_ | refine blk_alloc ?_ _)); exact BK167.out)) : gb195 ≠ gb167)); have n10_ := Aside0.mk ((by rw [hg]; exact Nat.ne_of_lt (blk_lt (g := gb177) (o := .cells #[.string t172, .int .i64 t173, .int .i64 t174] 25 (0, 0)) (by (with_reducible repeat (first | refine blk_drewN ?_ _ | refine blk_drew ?_ | refine blk_alloc ?_ _)); exact BK177.out)) : gb177 ≠ gb195)); have n11_ := Aside0.mk ((by rw [hg]; exact Nat.ne_of_gt (blk_lt (g := gb177) (o := .cells #[.string t172, .int .i64 t173, .int .i64 t174] 25 (0, 0)) (by (with_reducible repeat (first | refine blk_drewN ?_ _ | refine blk_drew ?_ | refine blk_alloc ?_ _)); exact BK177.out)) : gb195 ≠ gb177)); have n12_ := Aside0.mk ((by rw [hg]; exact Nat.ne_of_lt (blk_lt (g := gb183) (o := .cells #[.string t178, .int .i64 t179, .int .i64 t180] 25 (0, 0)) (by (with_reducible repeat (first | refine blk_drewN ?_ _ | refine blk_drew ?_ | refine blk_alloc ?_ _)); exact BK183.out)) : gb183 ≠ gb195)); have n13_ := Aside0.mk ((by rw [hg]; exact Nat.ne_of_gt (blk_lt (g := gb183) (o := .cells #[.string t178, .int .i64 t179, .int .i64 t180] 25 (0, 0)) (by (with_reducible repeat (first | refine blk_drewN ?_ _ | refine blk_drew ?_ | refine blk_alloc ?_ _)); exact BK183.out)) : gb195 ≠ gb183)); have n14_ := Aside0.mk ((by rw [hg]; exact Nat.ne_of_lt (blk_lt (g := gb189) (o := .cells #[.string t184, .int .i64 t185, .int .i64 t186] 25 (0, 0)) (by (with_reducible repeat (first | refine blk_drewN ?_ _ | refine blk_drew ?_ | refine blk_alloc ?_ _)); exact BK189.out)) : gb189 ≠ gb195)); have n15_ := Aside0.mk ((by rw [hg]; exact Nat.ne_of_gt (blk_lt (g := gb189) (o := .cells #[.string t184, .int .i64 t185, .int .i64 t186] 25 (0, 0)) (by (with_reducible repeat (first | refine blk_drewN ?_ _ | refine blk_drew ?_ | refine blk_alloc ?_ _)); exact BK189.out)) : gb195 ≠ gb189)); clear BK167; clear BK177; clear BK183; clear BK189; clear HB; have BK167 := n0_; have BK177 := n1_; have BK183 := n2_; have BK189 := n3_; have HB := n4_; have BK195 := n5_; have GW195 := n6_; have GE195 := n7_; have NB167_195 := n8_; have NB195_167 := n9_; have NB177_195 := n10_; have NB195_177 := n11_; have NB183_195 := n12_; have NB195_183 := n13_; have NB189_195 := n14_; have NB195_189 := n15_; clear n0_ n1_ n2_ n3_ n4_ n5_ n6_ n7_ n8_ n9_ n10_ n11_ n12_ n13_ n14_ n15_; clear hb hbox hg; have hnb70 := NB195_167.out; have hnc70 := NB167_195.out; have hnb71 := NB195_177.out; have hnc71 := NB177_195.out; have hnb72 := NB195_183.out; have hnc72 := NB183_195.out; have hnb73 := NB195_189.out; have hnc73 := NB189_195.out; have hcz74_0 : w69.cell? ⟨gb195, 0, none⟩ = some (.string (⟨#[]⟩ : ByteArray)) := (blk_cell BK195.out 0).trans rfl; have hcz74_1 : w69.cell? ⟨gb195, 1, none⟩ = some (.int .i64 0) := (blk_cell BK195.out 1).trans rfl; have hcz74_2 : w69.cell? ⟨gb195, 2, none⟩ = some (.int .i64 0) := (blk_cell BK195.out 2).trans rfl; have hfz74_0 := blk_frozen BK195.out 0; have hfz74_1 := blk_frozen BK195.out 1; have hfz74_2 := blk_frozen BK195.out 2))
                                  go_ret
                                  exact ⟨by first | rfl | (simp [errW_none, errW_some] <;> rfl) | (simp only [← hji7]; first | rfl | (simp [errW_none, errW_some] <;> rfl)) | (simp [*, errW_none, errW_some] <;> rfl), by repeat (first | (with_reducible first | exact HB.out | apply below_alloc | apply pw_below_drewN | apply below_drew1 | refine below_set ?_ GE167.out | refine below_set ?_ GE177.out | refine below_set ?_ GE183.out | refine below_set ?_ GE189.out | refine below_set ?_ GE195.out) | exact HB.out)⟩
                                  all_goals (exfalso; rename_i h_; apply h_; have e_ := beq_iff_eq.mp c46b0; simp only [ByteArray.size_append, Int.natCast_add] at e_; exact e_)
                                · rw [if_neg c51] at H
                                  have c51b0 : (t194 == 0) = false := beq_eq_false_iff_ne.mpr c51
                                  have c51b1 : (t194 != 0) = true := bne_iff_ne.mpr c51
                                  obtain rfl := Option.some.inj H
                                  cases hr_
                              · rw [if_neg c50] at H
                                have c50b0 : (t187.toList == ((⟨#[97, 98]⟩ : ByteArray) ++ (strOfNums (l1.take ((ji7) : Int).toNat))).toList) = false := beq_eq_false_iff_ne.mpr c50
                                have c50b1 : (t187.toList != ((⟨#[97, 98]⟩ : ByteArray) ++ (strOfNums (l1.take ((ji7) : Int).toNat))).toList) = true := bne_iff_ne.mpr c50
                                obtain rfl := Option.some.inj H
                                cases hr_
                            · rw [if_neg c49] at H
                              have c49b0 : (t188 == 0) = false := beq_eq_false_iff_ne.mpr c49
                              have c49b1 : (t188 != 0) = true := bne_iff_ne.mpr c49
                              obtain rfl := Option.some.inj H
                              cases hr_
                          · rw [if_neg c48] at H
                            have c48b0 : (t181 == 3) = false := beq_eq_false_iff_ne.mpr c48
                            have c48b1 : (t181 != 3) = true := bne_iff_ne.mpr c48
                            obtain rfl := Option.some.inj H
                            cases hr_
                        · rw [if_neg c47] at H
                          have c47b0 : (t182 == 0) = false := beq_eq_false_iff_ne.mpr c47
                          have c47b1 : (t182 != 0) = true := bne_iff_ne.mpr c47
                          obtain rfl := Option.some.inj H
                          cases hr_
                      · rw [if_neg c46] at H
                        have c46b0 : (t175 == (((⟨#[97, 98]⟩ : ByteArray) ++ (strOfNums (l1.take ((ji7) : Int).toNat))).size : Int)) = false := beq_eq_false_iff_ne.mpr c46
                        have c46b1 : (t175 != (((⟨#[97, 98]⟩ : ByteArray) ++ (strOfNums (l1.take ((ji7) : Int).toNat))).size : Int)) = true := bne_iff_ne.mpr c46
                        obtain rfl := Option.some.inj H
                        cases hr_
                    · rw [if_neg c45] at H
                      have c45b0 : (t176 == 0) = false := beq_eq_false_iff_ne.mpr c45
                      have c45b1 : (t176 != 0) = true := bne_iff_ne.mpr c45
                      obtain rfl := Option.some.inj H
                      cases hr_
            · rw [if_neg c10] at H
              exact absurd H (by simp)
          · rw [if_neg c9] at H
            exact absurd H (by simp)
        · rw [if_neg c8] at H
          exact absurd H (by simp)

/-- THE ONE PURE STATEMENT of laws_FnPipeWhole: yours. -/
def laws_FnPipeWhole.Pure : Prop := ∀ (l0 : List Int) (l1 : List Int), l0.length ≤ maxLen → l0.length * 1 ≤ 140737488351232 → (∀ x ∈ l0, (Lit.int .u8 x).wf = true) → l1.length ≤ maxLen → l1.length * 1 ≤ 140737488351232 → (∀ x ∈ l1, (Lit.int .u8 x).wf = true) → ∃ k, laws_FnPipeWhole.f k l0 l1 = some true
theorem laws_FnPipeWhole.walk (P : laws_FnPipeWhole.Pure) (a0 : Option Addr) (len0 cap0 : Nat) (z0 : List Int) (a1 : Option Addr) (len1 cap1 : Nat) (z1 : List Int) (w : World) (w0 : (a0 = none ∧ len0 = 0 ∧ cap0 = 0 ∧ z0 = []) ∨ ∃ x, a0 = some x ∧ len0 ≤ cap0 ∧ cap0 ≤ maxLen ∧ z0.length = cap0 ∧ (∀ i, i < z0.length → w.cell? (x.add i) = some (.int .u8 (z0.getD i 0))) ∧ ∀ n ∈ z0, (Lit.int .u8 n).wf = true) (y0 : len0 * 1 ≤ 140737488351232) (w1 : (a1 = none ∧ len1 = 0 ∧ cap1 = 0 ∧ z1 = []) ∨ ∃ x, a1 = some x ∧ len1 ≤ cap1 ∧ cap1 ≤ maxLen ∧ z1.length = cap1 ∧ (∀ i, i < z1.length → w.cell? (x.add i) = some (.int .u8 (z1.getD i 0))) ∧ ∀ n ∈ z1, (Lit.int .u8 n).wf = true) (y1 : len1 * 1 ≤ 140737488351232) :
    Calls Try.prog 6 #[.slice a0 len0 cap0, .slice a1 len1 cap1] w fun e w' => e = .returned (.bool true) ∧ Below w.heap.size w w' := by
  obtain ⟨l0, rfl, hr0, hm0, hw0, hc0⟩ := ReadsInt.ofRowC w0
  obtain ⟨l1, rfl, hr1, hm1, hw1, hc1⟩ := ReadsInt.ofRowC w1
  obtain ⟨k, h⟩ := P l0 l1 hm0 y0 hw0 hm1 y1 hw1
  refine (laws_FnPipeWhole.calls k _ _ l0 _ _ l1 true w (Kd.C_of_reads (d := (0 : Int)) (h1 := fun _ => rfl) hr0) hc0 (Kd.C_of_reads (d := (0 : Int)) (h1 := fun _ => rfl) hr1) hc1 h rfl).mono ?_
  rintro e w' ⟨rfl, hd⟩
  exact ⟨rfl, hd⟩

end Go.Proofs.Ytdcblmmfomjhcaa.XFnPipeWhole
