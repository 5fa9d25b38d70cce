-- Written by the kit's printer at the call of wip/tools/xprint.sh (this session's knobs and contracts). Not trusted: Lean checks it.
import Derived.Test.YtpljcphiaajjaaaXFnExactFsReadx0
namespace Go.Proofs.Ytpljcphiaajjaaa.XFnExactFsRead
open Go.RowKit Go.Proofs.YtpljcphiaajjaaaW.PrintWords Go.Proofs.YtpljcphiaajjaaaW.PrintLast Go.Proofs.YtpljcphiaajjaaaW.PrintMore
attribute [local go_sem] max2_int min2_int max_two min_two max_three min_three max_four min_four   -- for this text's walks alone
set_option linter.unusedVariables false
set_option linter.unusedSimpArgs false

/-! ### spec_l7Plain: function 66 -/
def spec_l7Plain.f (a0_0 : Int) (a0_1 : Int) (a0_2 : Int) (a0_3 : Int) (a0_4 : Int) (a0_5 : Int) (a0_6 : Bool) (a0_7 : ByteArray) (l0_8 : List (S47)) : Option (Bool) := if a0_0 = 0 then (if a0_1 = 0 then (if a0_2 = 0 then (if a0_3 = 0 then (if a0_4 = 0 then (if a0_5 = 0 then (if a0_6 = true then (some false) else (if a0_7.toList = ([] : List UInt8) then (some ((l0_8.length : Int) == 0)) else (some false))) else (some false)) else (some false)) else (some false)) else (some false)) else (some false)) else (some false)
set_option maxHeartbeats 8000000 in
set_option maxRecDepth 100000 in
theorem spec_l7Plain.calls (a0_0 : Int) (a0_1 : Int) (a0_2 : Int) (a0_3 : Int) (a0_4 : Int) (a0_5 : Int) (a0_6 : Bool) (a0_7 : ByteArray) (A0_8 : Option Addr) (c0_8 : Nat) (l0_8 : List (S47)) (r : Bool) (w : World) (hr0_8 : Kd.C k47 w A0_8 l0_8.length l0_8) (hc0_8 : l0_8.length ≤ c0_8) (h : spec_l7Plain.f a0_0 a0_1 a0_2 a0_3 a0_4 a0_5 a0_6 a0_7 l0_8 = some r) :
  Calls Try.prog 66 #[.agg #[.int .i64 a0_0,.int .i64 a0_1,.int .i64 a0_2,.int .i64 a0_3,.int .i64 a0_4,.int .i64 a0_5,.bool a0_6,.string a0_7,.slice A0_8 l0_8.length c0_8]] w fun e w' => e = .returned (.bool r) ∧ Below w.heap.size w w' := by
 have hu34 := Try.underlying34;have HR0_8 := Aside0.mk hr0_8;have HC0_8 := Aside0.mk hc0_8;clear hr0_8 hc0_8;have HB := Aside0.mk (Below.refl w.heap.size w);have H : (if a0_0 = 0 then (if a0_1 = 0 then (if a0_2 = 0 then (if a0_3 = 0 then (if a0_4 = 0 then (if a0_5 = 0 then (if a0_6 = true then (some false) else (if a0_7.toList = ([] : List UInt8) then (some ((l0_8.length : Int) == 0)) else (some false))) else (some false)) else (some false)) else (some false)) else (some false)) else (some false)) else (some false)) = some r := h;clear h
 go_enter Try.func66,Try.ntmps66
 go_upto_region 1 with (first | ((with_reducible refine gate_dst (N := 1) rfl ?_); (try (refine gate_guard (by rfl) ?_; dsimp only)); refine box_event ?hg (N := 1) ?hd (cs := #[.int .i64 a0_0,.int .i64 a0_1,.int .i64 a0_2,.int .i64 a0_3,.int .i64 a0_4,.int .i64 a0_5,.bool a0_6,.string a0_7,.slice A0_8 l0_8.length c0_8]) (t := 34) ?hr ?_; (case hd => rfl); (case hg => rfl); (case hr => first | (go_simp; done) | (go_simp; rfl)); intro gb164 hg w2 hbox hb; have n0_ := Aside0.mk (below_step (by repeat (first | (with_reducible first | exact HB.out | apply yA | apply yN | apply yD) | exact HB.out)) hb); have n1_ := Aside0.mk (hbox); have n2_ := Aside0.mk ((by rw [hg]; exact (below_size (by repeat (first | (with_reducible first | exact HB.out | apply yA | apply yN | apply yD) | exact HB.out))) : w.heap.size ≤ gb164)); have n3_ := Aside0.mk ((by rw [hg]; exact (below_size (by repeat (first | (with_reducible first | exact HB.out | apply yA | apply yN | apply yD) | exact HB.out))) : w.heap.size ≤ gb164)); clear HB; have HB := n0_; have BK164 := n1_; have GW164 := n2_; have GE164 := n3_; clear n0_ n1_ n2_ n3_; clear hb hbox hg))
 (try simp only [Act.put,List.setIfInBounds_toArray,List.set_cons_zero,List.set_cons_succ]);by_cases c3 : a0_0 = 0
 ·rw [if_pos c3] at H;have c3b0 : (a0_0 == 0) = true := beq_iff_eq.mpr c3;have c3b1 : (a0_0 != 0) = false := bne_eq_false_iff_eq.mpr c3;clear c3;by_cases c4 : a0_1 = 0
  ·rw [if_pos c4] at H;have c4b0 : (a0_1 == 0) = true := beq_iff_eq.mpr c4;have c4b1 : (a0_1 != 0) = false := bne_eq_false_iff_eq.mpr c4;clear c4;by_cases c5 : a0_2 = 0
   ·rw [if_pos c5] at H;have c5b0 : (a0_2 == 0) = true := beq_iff_eq.mpr c5;have c5b1 : (a0_2 != 0) = false := bne_eq_false_iff_eq.mpr c5;clear c5;by_cases c6 : a0_3 = 0
    ·rw [if_pos c6] at H;have c6b0 : (a0_3 == 0) = true := beq_iff_eq.mpr c6;have c6b1 : (a0_3 != 0) = false := bne_eq_false_iff_eq.mpr c6;clear c6;by_cases c7 : a0_4 = 0
     ·rw [if_pos c7] at H;have c7b0 : (a0_4 == 0) = true := beq_iff_eq.mpr c7;have c7b1 : (a0_4 != 0) = false := bne_eq_false_iff_eq.mpr c7;clear c7;by_cases c8 : a0_5 = 0
      ·rw [if_pos c8] at H;have c8b0 : (a0_5 == 0) = true := beq_iff_eq.mpr c8;have c8b1 : (a0_5 != 0) = false := bne_eq_false_iff_eq.mpr c8;clear c8;by_cases c9 : a0_6 = true
       ·subst c9;(have H1 : (some false) = some r := by rw [if_pos rfl] at H; exact H);clear H;have H := H1;clear H1;obtain rfl := Option.some.inj H
        simp only [Option.some.injEq,Prod.mk.injEq] at H
        obtain ⟨rfl⟩ := H;have hcz10 := pk9 BK164.out
        go_wp2
        go_ret
        exact ⟨by first | rfl | (simp [errW_none,errW_some] <;> rfl) | (simp [*,errW_none,errW_some] <;> rfl),by repeat (first | (with_reducible first | exact HB.out | apply yA | apply yN | apply yD | refine yS ?_ GE164.out) | exact HB.out)⟩
       ·replace c9 := Bool.eq_false_iff.mpr c9;subst c9;(have H1 : (if a0_7.toList = ([] : List UInt8) then (some ((l0_8.length : Int) == 0)) else (some false)) = some r := by rw [if_neg (show ¬ (false = true) by decide)] at H; exact H);clear H;have H := H1;clear H1;by_cases c11 : a0_7.toList = ([] : List UInt8)
        ·rw [if_pos c11] at H;have c11b0 : (a0_7.toList == ([] : List UInt8)) = true := beq_iff_eq.mpr c11;have c11b1 : (a0_7.toList != ([] : List UInt8)) = false := bne_eq_false_iff_eq.mpr c11;clear c11;obtain rfl := Option.some.inj H
         simp only [Option.some.injEq,Prod.mk.injEq] at H
         obtain ⟨rfl⟩ := H;have hcz12 := pk9 BK164.out
         go_wp2
         go_ret
         exact ⟨by first | rfl | (simp [errW_none,errW_some] <;> rfl) | (simp [*,errW_none,errW_some] <;> rfl),by repeat (first | (with_reducible first | exact HB.out | apply yA | apply yN | apply yD | refine yS ?_ GE164.out) | exact HB.out)⟩
        ·rw [if_neg c11] at H;have c11b0 : (a0_7.toList == ([] : List UInt8)) = false := beq_eq_false_iff_ne.mpr c11;have c11b1 : (a0_7.toList != ([] : List UInt8)) = true := bne_iff_ne.mpr c11;obtain rfl := Option.some.inj H
         simp only [Option.some.injEq,Prod.mk.injEq] at H
         obtain ⟨rfl⟩ := H;have hcz13 := pk9 BK164.out
         go_wp2
         go_ret
         exact ⟨by first | rfl | (simp [errW_none,errW_some] <;> rfl) | (simp [*,errW_none,errW_some] <;> rfl),by repeat (first | (with_reducible first | exact HB.out | apply yA | apply yN | apply yD | refine yS ?_ GE164.out) | exact HB.out)⟩
      ·rw [if_neg c8] at H;have c8b0 : (a0_5 == 0) = false := beq_eq_false_iff_ne.mpr c8;have c8b1 : (a0_5 != 0) = true := bne_iff_ne.mpr c8;obtain rfl := Option.some.inj H
       simp only [Option.some.injEq,Prod.mk.injEq] at H
       obtain ⟨rfl⟩ := H;have hcz14 := pk9 BK164.out
       go_wp2
       go_ret
       exact ⟨by first | rfl | (simp [errW_none,errW_some] <;> rfl) | (simp [*,errW_none,errW_some] <;> rfl),by repeat (first | (with_reducible first | exact HB.out | apply yA | apply yN | apply yD | refine yS ?_ GE164.out) | exact HB.out)⟩
     ·rw [if_neg c7] at H;have c7b0 : (a0_4 == 0) = false := beq_eq_false_iff_ne.mpr c7;have c7b1 : (a0_4 != 0) = true := bne_iff_ne.mpr c7;obtain rfl := Option.some.inj H
      simp only [Option.some.injEq,Prod.mk.injEq] at H
      obtain ⟨rfl⟩ := H;have hcz15 := pk9 BK164.out
      go_wp2
      go_ret
      exact ⟨by first | rfl | (simp [errW_none,errW_some] <;> rfl) | (simp [*,errW_none,errW_some] <;> rfl),by repeat (first | (with_reducible first | exact HB.out | apply yA | apply yN | apply yD | refine yS ?_ GE164.out) | exact HB.out)⟩
    ·rw [if_neg c6] at H;have c6b0 : (a0_3 == 0) = false := beq_eq_false_iff_ne.mpr c6;have c6b1 : (a0_3 != 0) = true := bne_iff_ne.mpr c6;obtain rfl := Option.some.inj H
     simp only [Option.some.injEq,Prod.mk.injEq] at H
     obtain ⟨rfl⟩ := H;have hcz16 := pk9 BK164.out
     go_wp2
     go_ret
     exact ⟨by first | rfl | (simp [errW_none,errW_some] <;> rfl) | (simp [*,errW_none,errW_some] <;> rfl),by repeat (first | (with_reducible first | exact HB.out | apply yA | apply yN | apply yD | refine yS ?_ GE164.out) | exact HB.out)⟩
   ·rw [if_neg c5] at H;have c5b0 : (a0_2 == 0) = false := beq_eq_false_iff_ne.mpr c5;have c5b1 : (a0_2 != 0) = true := bne_iff_ne.mpr c5;obtain rfl := Option.some.inj H
    simp only [Option.some.injEq,Prod.mk.injEq] at H
    obtain ⟨rfl⟩ := H;have hcz17 := pk9 BK164.out
    go_wp2
    go_ret
    exact ⟨by first | rfl | (simp [errW_none,errW_some] <;> rfl) | (simp [*,errW_none,errW_some] <;> rfl),by repeat (first | (with_reducible first | exact HB.out | apply yA | apply yN | apply yD | refine yS ?_ GE164.out) | exact HB.out)⟩
  ·rw [if_neg c4] at H;have c4b0 : (a0_1 == 0) = false := beq_eq_false_iff_ne.mpr c4;have c4b1 : (a0_1 != 0) = true := bne_iff_ne.mpr c4;obtain rfl := Option.some.inj H
   simp only [Option.some.injEq,Prod.mk.injEq] at H
   obtain ⟨rfl⟩ := H;have hcz18 := pk9 BK164.out
   go_wp2
   go_ret
   exact ⟨by first | rfl | (simp [errW_none,errW_some] <;> rfl) | (simp [*,errW_none,errW_some] <;> rfl),by repeat (first | (with_reducible first | exact HB.out | apply yA | apply yN | apply yD | refine yS ?_ GE164.out) | exact HB.out)⟩
 ·rw [if_neg c3] at H;have c3b0 : (a0_0 == 0) = false := beq_eq_false_iff_ne.mpr c3;have c3b1 : (a0_0 != 0) = true := bne_iff_ne.mpr c3;obtain rfl := Option.some.inj H
  simp only [Option.some.injEq,Prod.mk.injEq] at H
  obtain ⟨rfl⟩ := H;have hcz19 := pk9 BK164.out
  go_wp2
  go_ret
  exact ⟨by first | rfl | (simp [errW_none,errW_some] <;> rfl) | (simp [*,errW_none,errW_some] <;> rfl),by repeat (first | (with_reducible first | exact HB.out | apply yA | apply yN | apply yD | refine yS ?_ GE164.out) | exact HB.out)⟩

end Go.Proofs.Ytpljcphiaajjaaa.XFnExactFsRead
