-- Written by the kit's printer at the call of wip/tools/xprint.sh (this session's knobs and contracts). Not trusted: Lean checks it.
import Derived.Test.YtpljcphiaajjaaaXFnFsNewx0
import Derived.Test.YtpljcphiaajjaaaXFnFsNewx3
namespace Go.Proofs.Ytpljcphiaajjaaa.XFnFsNew
open Go.RowKit Go.Proofs.YtpljcphiaajjaaaW.PrintWords Go.Proofs.YtpljcphiaajjaaaW.PrintLast Go.Proofs.YtpljcphiaajjaaaW.PrintMore
attribute [local go_sem] max2_int min2_int max_two min_two max_three min_three max_four min_four   -- for this text's walks alone
set_option linter.unusedVariables false
set_option linter.unusedSimpArgs false
abbrev zb4_0 : Array Bool := #[false,false,false,false,false,false,false,false,false,false,false,false]
abbrev zb4_1 : Array Bool := #[true,false,false,false,false,false,false,false,false,false,false,false]
abbrev zb4_2 : Array Bool := #[true,false,true,false,false,false,false,false,false,false,false,false]
abbrev zb4_3 : Array Bool := #[true,false,true,false,false,true,false,false,false,false,false,false]
abbrev zb4_4 : Array Bool := #[true,false,true,false,false,true,false,true,false,false,false,false]
abbrev zb4_5 : Array Bool := #[true,true,true,false,false,true,false,true,false,false,false,false]
abbrev zb4_6 : Array Bool := #[true,true,true,true,false,true,false,true,false,false,false,false]
abbrev zb4_7 : Array Bool := #[true,true,true,true,true,true,false,true,false,false,false,false]
abbrev zb4_8 : Array Bool := #[true,true,true,true,true,true,true,true,false,false,false,false]
abbrev zb4_9 : Array Bool := #[true,true,true,true,true,true,true,true,true,false,false,false]
abbrev zb4_10 : Array Bool := #[true,true,true,true,true,true,true,true,true,true,false,false]
abbrev zb4_11 : Array Bool := #[true,true,true,true,true,true,true,true,true,true,true,false]
abbrev zb4_12 : Array Bool := #[true,true,true,true,true,true,true,true,true,true,true,true]

/-! ### laws_qdFs: function 13 -/
def laws_qdFs.l0 : Nat → Int → List (S34) → List (S34) → Option (Bool)
 | 0,_,_,_ => none
 | k + 1,x5,x159000,x160000 => if x5 < (x159000.length : Int) then (if 0 ≤ x5 then (if x5 < (x160000.length : Int) then ((laws_qdInode.f k ((rd_T34 x159000 x5).f0) ((rd_T34 x159000 x5).f1) ((rd_T34 x159000 x5).f2) ((rd_T34 x159000 x5).f3) ((rd_T34 x159000 x5).f4) ((rd_T34 x159000 x5).f5) ((rd_T34 x159000 x5).f6) ((rd_T34 x159000 x5).f7) ((rd_T34 x159000 x5).f8) ((rd_T34 x160000 x5).f0) ((rd_T34 x160000 x5).f1) ((rd_T34 x160000 x5).f2) ((rd_T34 x160000 x5).f3) ((rd_T34 x160000 x5).f4) ((rd_T34 x160000 x5).f5) ((rd_T34 x160000 x5).f6) ((rd_T34 x160000 x5).f7) ((rd_T34 x160000 x5).f8)).bind fun t162 => (if t162 = true then (laws_qdFs.l0 k (wrap64 (x5 + 1)) x159000 x160000) else (some false))) else (none)) else (none)) else (some true)
def laws_qdFs.f (k : Nat) (l0_0 : List (S34)) (l1_0 : List (S34)) : Option (Bool) := if (l0_0.length : Int) = (l1_0.length : Int) then (laws_qdFs.l0 k 0 l0_0 l1_0) else (some false)
theorem laws_qdFs.mono_l : ∀ k,(∀ y0 y1 y2,LeO (laws_qdFs.l0 k y0 y1 y2) (laws_qdFs.l0 (k + 1) y0 y1 y2))
 | 0 => fun _ _ _ r h => by simp [laws_qdFs.l0] at h
 | k + 1 => by
  have ih0 := laws_qdFs.mono_l k
  ·intro y0 y1 y2
   unfold laws_qdFs.l0
   repeat' first
   | (with_reducible exact ih0 _ _ _)
   | (with_reducible exact laws_qdInode.mono _ _ _ _ _ _ _ _ _ _ _ _ _ _ _ _ _ _ _)
   | (with_reducible exact LeO.refl _)
   | (with_reducible exact LeO.none _)
   | (with_reducible refine LeO.ite ?_ ?_)
   | (with_reducible refine LeO.bind ?_ (fun _ => ?_))
   | exact ih0 _ _ _
   | exact laws_qdInode.mono _ _ _ _ _ _ _ _ _ _ _ _ _ _ _ _ _ _ _
   | exact LeO.none _
   | refine LeO.ite ?_ ?_
   | refine LeO.bind ?_ (fun _ => ?_)
theorem laws_qdFs.mono : ∀ a0 a1 k,LeO (laws_qdFs.f k a0 a1) (laws_qdFs.f (k + 1) a0 a1) := by
 intro a0 a1 k
 have ih0 := laws_qdFs.mono_l k
 unfold laws_qdFs.f
 repeat' first
   | (with_reducible exact ih0 _ _ _)
   | (with_reducible exact laws_qdInode.mono _ _ _ _ _ _ _ _ _ _ _ _ _ _ _ _ _ _ _)
   | (with_reducible exact LeO.refl _)
   | (with_reducible exact LeO.none _)
   | (with_reducible refine LeO.ite ?_ ?_)
   | (with_reducible refine LeO.bind ?_ (fun _ => ?_))
   | exact ih0 _ _ _
   | exact laws_qdInode.mono _ _ _ _ _ _ _ _ _ _ _ _ _ _ _ _ _ _ _
   | exact LeO.none _
   | refine LeO.ite ?_ ?_
   | refine LeO.bind ?_ (fun _ => ?_)
def laws_qdFs.T6 : Bool × List (List Nat × List Nat) := (true,[([],[]),([0],[0]),([],[]),([1,2],[1,2]),([3],[3]),([],[]),([5],[5]),([],[]),([6,7],[6,7]),([8],[8]),([4,9],[4,9]),([10],[10])])
def laws_qdFs.B6 : List Nat := [0,1,0,7,15,0,32,0,224,480,1023,2047]
theorem laws_qdFs.tab6 : rtab .any (opsOf Try.f13 6) = laws_qdFs.T6 := by kernel_rfl
theorem laws_qdFs.bits6 : waitsOk laws_qdFs.T6.2 laws_qdFs.B6 = true := by kernel_rfl
set_option maxHeartbeats 8000000 in
set_option maxRecDepth 100000 in
theorem laws_qdFs.calls (k : Nat) (A0_0 : Option Addr) (c0_0 : Nat) (l0_0 : List (S34)) (A1_0 : Option Addr) (c1_0 : Nat) (l1_0 : List (S34)) (r : Bool) (w : World) (hr0_0 : Kd.C k34 w A0_0 l0_0.length l0_0) (hc0_0 : l0_0.length ≤ c0_0) (hr1_0 : Kd.C k34 w A1_0 l1_0.length l1_0) (hc1_0 : l1_0.length ≤ c1_0) (h : laws_qdFs.f k l0_0 l1_0 = some r) :
  Calls Try.prog 13 #[.agg #[.slice A0_0 l0_0.length c0_0],.agg #[.slice A1_0 l1_0.length c1_0]] w fun e w' => e = .returned (.bool r) ∧ Below w.heap.size w w' := by
 have hu27 := Try.underlying27;have hu34 := Try.underlying34;have HR0_0 := Aside0.mk hr0_0;have HC0_0 := Aside0.mk hc0_0;clear hr0_0 hc0_0;have HR1_0 := Aside0.mk hr1_0;have HC1_0 := Aside0.mk hc1_0;clear hr1_0 hc1_0;have HB := Aside0.mk (Below.refl w.heap.size w);have H : (if (l0_0.length : Int) = (l1_0.length : Int) then (laws_qdFs.l0 k 0 l0_0 l1_0) else (some false)) = some r := h;clear h;by_cases c3 : (l0_0.length : Int) = (l1_0.length : Int)
 ·rw [if_pos c3] at H;have c3b0 : ((l0_0.length : Int) == (l1_0.length : Int)) = true := beq_iff_eq.mpr c3;have c3b1 : ((l0_0.length : Int) != (l1_0.length : Int)) = false := bne_eq_false_iff_eq.mpr c3;(have c3b2 : (l0_0.length == l1_0.length) = true := by first | simpa using c3 | (simp at c3 ⊢; omega));clear c3;have H' := Aside0.mk H;clear H
  go_enter Try.func13,Try.ntmps13
  go_wp2_with (first | ((with_reducible refine gate_dst (N := 2) rfl ?_); refine box_event ?hg (N := 2) ?hd (cs := #[.slice A0_0 l0_0.length c0_0]) (t := 27) ?hr ?_; (case hd => rfl); (case hg => rfl); (case hr => first | (go_simp; done) | (go_simp; rfl)); intro gb158 hg w4 hbox hb; have n0_ := Aside0.mk (below_step (by repeat (first | (with_reducible first | exact HB.out | apply below_alloc | apply pw_below_drewN | apply below_drew1) | exact HB.out)) hb); have n1_ := Aside0.mk (hbox); have n2_ := Aside0.mk ((by rw [hg]; exact (below_size (by repeat (first | (with_reducible first | exact HB.out | apply below_alloc | apply pw_below_drewN | apply below_drew1) | exact HB.out))) : w.heap.size ≤ gb158)); have n3_ := Aside0.mk ((by rw [hg]; exact (below_size (by repeat (first | (with_reducible first | exact HB.out | apply below_alloc | apply pw_below_drewN | apply below_drew1) | exact HB.out))) : w.heap.size ≤ gb158)); clear HB; have HB := n0_; have BK158 := n1_; have GW158 := n2_; have GE158 := n3_; clear n0_ n1_ n2_ n3_; clear hb hbox hg) | ((with_reducible refine gate_dst (N := 3) rfl ?_); refine box_event ?hg (N := 3) ?hd (cs := #[.slice A1_0 l1_0.length c1_0]) (t := 27) ?hr ?_; (case hd => rfl); (case hg => rfl); (case hr => first | (go_simp; done) | (go_simp; rfl)); intro gb159 hg w5 hbox hb; have n0_ := Aside0.mk (blk_below (g := gb158) (o := .cells #[.slice A0_0 l0_0.length c0_0] 27 (0,0)) (by (with_reducible repeat (first | refine blk_drewN ?_ _ | refine blk_drew ?_ | refine blk_alloc ?_ _)); exact BK158.out) hb); have n1_ := Aside0.mk (below_step (by repeat (first | (with_reducible first | exact HB.out | apply below_alloc | apply pw_below_drewN | apply below_drew1 | refine below_set ?_ GE158.out) | exact HB.out)) hb); have n2_ := Aside0.mk (hbox); have n3_ := Aside0.mk ((by rw [hg]; exact (below_size (by repeat (first | (with_reducible first | exact HB.out | apply below_alloc | apply pw_below_drewN | apply below_drew1 | refine below_set ?_ GE158.out) | exact HB.out))) : w.heap.size ≤ gb159)); have n4_ := Aside0.mk ((by rw [hg]; exact (below_size (by repeat (first | (with_reducible first | exact HB.out | apply below_alloc | apply pw_below_drewN | apply below_drew1 | refine below_set ?_ GE158.out) | exact HB.out))) : w.heap.size ≤ gb159)); have n5_ := Aside0.mk ((by rw [hg]; exact Nat.ne_of_lt (blk_lt (g := gb158) (o := .cells #[.slice A0_0 l0_0.length c0_0] 27 (0,0)) (by (with_reducible repeat (first | refine blk_drewN ?_ _ | refine blk_drew ?_ | refine blk_alloc ?_ _)); exact BK158.out)) : gb158 ≠ gb159)); have n6_ := Aside0.mk ((by rw [hg]; exact Nat.ne_of_gt (blk_lt (g := gb158) (o := .cells #[.slice A0_0 l0_0.length c0_0] 27 (0,0)) (by (with_reducible repeat (first | refine blk_drewN ?_ _ | refine blk_drew ?_ | refine blk_alloc ?_ _)); exact BK158.out)) : gb159 ≠ gb158)); clear BK158; clear HB; have BK158 := n0_; have HB := n1_; have BK159 := n2_; have GW159 := n3_; have GE159 := n4_; have NB158_159 := n5_; have NB159_158 := n6_; clear n0_ n1_ n2_ n3_ n4_ n5_ n6_; clear hb hbox hg; have hnb6 := NB158_159.out; have hnc6 := NB159_158.out; have hcz7 := pk1 BK158.out; have hcz8 := pk1 BK159.out))
  go_loopg [5] k (fun kq v5 w' => ∃ (x5_1 : Int),v5 = .int .i64 x5_1 ∧ Aside0 (laws_qdFs.l0 kq x5_1 l0_0 l1_0 = some r) ∧ Aside0 (kq ≤ k) ∧ Aside0 (w'.heap[gb158]? = some (.cells #[(.slice A0_0 l0_0.length c0_0)] 27 (0,0))) ∧ Aside0 (w'.heap[gb159]? = some (.cells #[(.slice A1_0 l1_0.length c1_0)] 27 (0,0))) ∧ Aside0 (Below w.heap.size w w'))
  case atStart => exact ⟨(0),(by first | rfl | (simp; done) | (simp [*]; done)),H',⟨Nat.le_refl _⟩,⟨by (with_reducible repeat (first | refine blk_drewN ?_ _ | refine blk_drew ?_ | refine blk_alloc ?_ _)); first | exact BK158.out | (simp only [*]; exact BK158.out)⟩,⟨by (with_reducible repeat (first | refine blk_drewN ?_ _ | refine blk_drew ?_ | refine blk_alloc ?_ _)); first | exact BK159.out | (simp only [*]; exact BK159.out)⟩,⟨by repeat (first | (with_reducible first | exact HB.out | apply below_alloc | apply pw_below_drewN | apply below_drew1 | refine below_set ?_ GE158.out | refine below_set ?_ GE159.out) | exact HB.out)⟩⟩
  case round =>
   clear H';(try clear c1);(try clear p2);(try clear c3);(try clear c3b0);(try clear c3b1);(try clear c3b2);(try clear c6);(try clear hcz7);(try clear hcz8);obtain ⟨x5_1,rfl,HA,HK1,BK158,BK159,HB⟩ := hrel
   cases gk with
   | zero => exact absurd HA.out (by simp [laws_qdFs.l0])
   | succ k1 =>
    have H := HA.out;clear HA
    simp only [laws_qdFs.l0] at H
    by_cases c9 : x5_1 < (l0_0.length : Int)
    ·rw [if_pos c9] at H;have c9b0 : decide (x5_1 < (l0_0.length : Int)) = true := decide_eq_true c9;clear c9;by_cases c10 : 0 ≤ x5_1
     ·rw [if_pos c10] at H;have c10b0 : decide (0 ≤ x5_1) = true := decide_eq_true c10;clear c10;by_cases c11 : x5_1 < (l1_0.length : Int)
      ·rw [if_pos c11] at H;have c11b0 : decide (x5_1 < (l1_0.length : Int)) = true := decide_eq_true c11;clear c11;replace H := Option.bind_eq_some_iff.mp H;obtain ⟨t162,A120,H⟩ := H;replace H : (if t162 = true then (laws_qdFs.l0 k1 (wrap64 (x5_1 + 1)) l0_0 l1_0) else (some false)) = some r := H;have A12 := Aside0.mk A120;clear A120;by_cases c13 : t162 = true
       ·subst c13;(have H1 : (laws_qdFs.l0 k1 (wrap64 (x5_1 + 1)) l0_0 l1_0) = some r := by rw [if_pos rfl] at H; exact H);clear H;have H := H1;clear H1;have H' := Aside0.mk H;clear H;have hnb14 := NB158_159.out;have hnc14 := NB159_158.out;have hcz15 := pk1 BK158.out
        try go_wp2
        have n0_ := Aside0.mk (blk_drew BK158.out);have n1_ := Aside0.mk (blk_drew BK159.out);have n2_ := Aside0.mk (below_drew1 HB.out);clear BK158;clear BK159;clear HB;have BK158 := n0_;have BK159 := n1_;have HB := n2_;clear n0_ n1_ n2_;have p160 : 0 ≤ (x5_1 : Int) := of_decide_eq_true (by first | (with_reducible assumption) | assumption);have q160 : x5_1 < (l0_0.length : Int) := of_decide_eq_true (by first | (with_reducible assumption) | assumption);obtain ⟨ad160,A160_8,c160_8,e160,hx160_0,hx160_1,hx160_2,hx160_3,hx160_4,hx160_5,hx160_6,hx160_7,hx160_8,hl160_8,hi160_8⟩ := at_T34 HR0_0.out x5_1 p160 q160;have hw160_8 := hx160_8;have hw160_7 := hx160_7;have hw160_6 := hx160_6;have hw160_5 := hx160_5;have hw160_4 := hx160_4;have hw160_3 := hx160_3;have hw160_2 := hx160_2;have hw160_1 := hx160_1;have hw160_0 := hx160_0
        cases e160
        replace hx160_0 := (HB.out.cell (World.block_lt_of_cell? w _ hx160_0)).trans hx160_0;replace hx160_1 := (HB.out.cell (World.block_lt_of_cell? w _ hx160_1)).trans hx160_1;replace hx160_2 := (HB.out.cell (World.block_lt_of_cell? w _ hx160_2)).trans hx160_2;replace hx160_3 := (HB.out.cell (World.block_lt_of_cell? w _ hx160_3)).trans hx160_3;replace hx160_4 := (HB.out.cell (World.block_lt_of_cell? w _ hx160_4)).trans hx160_4;replace hx160_5 := (HB.out.cell (World.block_lt_of_cell? w _ hx160_5)).trans hx160_5;replace hx160_6 := (HB.out.cell (World.block_lt_of_cell? w _ hx160_6)).trans hx160_6;replace hx160_7 := (HB.out.cell (World.block_lt_of_cell? w _ hx160_7)).trans hx160_7;replace hx160_8 := (HB.out.cell (World.block_lt_of_cell? w _ hx160_8)).trans hx160_8;have HR160_8 := Aside0.mk hi160_8;have HC160_8 := Aside0.mk hl160_8;clear hi160_8 hl160_8;replace p160 := eq_true p160;replace q160 := eq_true q160;have p161 : 0 ≤ (x5_1 : Int) := of_decide_eq_true (by first | (with_reducible assumption) | assumption);have q161 : x5_1 < (l1_0.length : Int) := of_decide_eq_true (by first | (with_reducible assumption) | assumption);obtain ⟨ad161,A161_8,c161_8,e161,hx161_0,hx161_1,hx161_2,hx161_3,hx161_4,hx161_5,hx161_6,hx161_7,hx161_8,hl161_8,hi161_8⟩ := at_T34 HR1_0.out x5_1 p161 q161;have hw161_8 := hx161_8;have hw161_7 := hx161_7;have hw161_6 := hx161_6;have hw161_5 := hx161_5;have hw161_4 := hx161_4;have hw161_3 := hx161_3;have hw161_2 := hx161_2;have hw161_1 := hx161_1;have hw161_0 := hx161_0
        cases e161
        replace hx161_0 := (HB.out.cell (World.block_lt_of_cell? w _ hx161_0)).trans hx161_0;replace hx161_1 := (HB.out.cell (World.block_lt_of_cell? w _ hx161_1)).trans hx161_1;replace hx161_2 := (HB.out.cell (World.block_lt_of_cell? w _ hx161_2)).trans hx161_2;replace hx161_3 := (HB.out.cell (World.block_lt_of_cell? w _ hx161_3)).trans hx161_3;replace hx161_4 := (HB.out.cell (World.block_lt_of_cell? w _ hx161_4)).trans hx161_4;replace hx161_5 := (HB.out.cell (World.block_lt_of_cell? w _ hx161_5)).trans hx161_5;replace hx161_6 := (HB.out.cell (World.block_lt_of_cell? w _ hx161_6)).trans hx161_6;replace hx161_7 := (HB.out.cell (World.block_lt_of_cell? w _ hx161_7)).trans hx161_7;replace hx161_8 := (HB.out.cell (World.block_lt_of_cell? w _ hx161_8)).trans hx161_8;have HR161_8 := Aside0.mk hi161_8;have HC161_8 := Aside0.mk hl161_8;clear hi161_8 hl161_8;replace p161 := eq_true p161;replace q161 := eq_true q161
        refine start_ (n := 12) (S := fun w' => w'.cell? ⟨gb158,0,none⟩ = some (.slice (some ad160) l0_0.length c0_0) ∧ w'.cell? ⟨gb159,0,none⟩ = some (.slice (some ad161) l1_0.length c1_0) ∧ w'.cell? (ad160.add ((x5_1).toNat * 9)) = some (.int .i64 ((rd_T34 l0_0 x5_1).f0)) ∧ w'.cell? ⟨(ad160.add ((x5_1).toNat * 9)).block,(ad160.add ((x5_1).toNat * 9)).off + 1,none⟩ = some (.int .i64 ((rd_T34 l0_0 x5_1).f1)) ∧ w'.cell? ⟨(ad160.add ((x5_1).toNat * 9)).block,(ad160.add ((x5_1).toNat * 9)).off + 2,none⟩ = some (.int .i64 ((rd_T34 l0_0 x5_1).f2)) ∧ w'.cell? ⟨(ad160.add ((x5_1).toNat * 9)).block,(ad160.add ((x5_1).toNat * 9)).off + 3,none⟩ = some (.int .i64 ((rd_T34 l0_0 x5_1).f3)) ∧ w'.cell? ⟨(ad160.add ((x5_1).toNat * 9)).block,(ad160.add ((x5_1).toNat * 9)).off + 4,none⟩ = some (.int .i64 ((rd_T34 l0_0 x5_1).f4)) ∧ w'.cell? ⟨(ad160.add ((x5_1).toNat * 9)).block,(ad160.add ((x5_1).toNat * 9)).off + 5,none⟩ = some (.int .i64 ((rd_T34 l0_0 x5_1).f5)) ∧ w'.cell? ⟨(ad160.add ((x5_1).toNat * 9)).block,(ad160.add ((x5_1).toNat * 9)).off + 6,none⟩ = some (.bool ((rd_T34 l0_0 x5_1).f6)) ∧ w'.cell? ⟨(ad160.add ((x5_1).toNat * 9)).block,(ad160.add ((x5_1).toNat * 9)).off + 7,none⟩ = some (.string ((rd_T34 l0_0 x5_1).f7)) ∧ w'.cell? ⟨(ad160.add ((x5_1).toNat * 9)).block,(ad160.add ((x5_1).toNat * 9)).off + 8,none⟩ = some (.slice A160_8 ((rd_T34 l0_0 x5_1).f8).length c160_8) ∧ w'.cell? (ad161.add ((x5_1).toNat * 9)) = some (.int .i64 ((rd_T34 l1_0 x5_1).f0)) ∧ w'.cell? ⟨(ad161.add ((x5_1).toNat * 9)).block,(ad161.add ((x5_1).toNat * 9)).off + 1,none⟩ = some (.int .i64 ((rd_T34 l1_0 x5_1).f1)) ∧ w'.cell? ⟨(ad161.add ((x5_1).toNat * 9)).block,(ad161.add ((x5_1).toNat * 9)).off + 2,none⟩ = some (.int .i64 ((rd_T34 l1_0 x5_1).f2)) ∧ w'.cell? ⟨(ad161.add ((x5_1).toNat * 9)).block,(ad161.add ((x5_1).toNat * 9)).off + 3,none⟩ = some (.int .i64 ((rd_T34 l1_0 x5_1).f3)) ∧ w'.cell? ⟨(ad161.add ((x5_1).toNat * 9)).block,(ad161.add ((x5_1).toNat * 9)).off + 4,none⟩ = some (.int .i64 ((rd_T34 l1_0 x5_1).f4)) ∧ w'.cell? ⟨(ad161.add ((x5_1).toNat * 9)).block,(ad161.add ((x5_1).toNat * 9)).off + 5,none⟩ = some (.int .i64 ((rd_T34 l1_0 x5_1).f5)) ∧ w'.cell? ⟨(ad161.add ((x5_1).toNat * 9)).block,(ad161.add ((x5_1).toNat * 9)).off + 6,none⟩ = some (.bool ((rd_T34 l1_0 x5_1).f6)) ∧ w'.cell? ⟨(ad161.add ((x5_1).toNat * 9)).block,(ad161.add ((x5_1).toNat * 9)).off + 7,none⟩ = some (.string ((rd_T34 l1_0 x5_1).f7)) ∧ w'.cell? ⟨(ad161.add ((x5_1).toNat * 9)).block,(ad161.add ((x5_1).toNat * 9)).off + 8,none⟩ = some (.slice A161_8 ((rd_T34 l1_0 x5_1).f8).length c161_8)) (ds := []) zb4_0 (by kernel_rfl) rfl rfl ⟨(blk_cell BK158.out 0).trans rfl,(blk_cell BK159.out 0).trans rfl,((HB.out.cell (World.block_lt_of_cell? w _ hw160_0)).trans hw160_0),((HB.out.cell (World.block_lt_of_cell? w _ hw160_1)).trans hw160_1),((HB.out.cell (World.block_lt_of_cell? w _ hw160_2)).trans hw160_2),((HB.out.cell (World.block_lt_of_cell? w _ hw160_3)).trans hw160_3),((HB.out.cell (World.block_lt_of_cell? w _ hw160_4)).trans hw160_4),((HB.out.cell (World.block_lt_of_cell? w _ hw160_5)).trans hw160_5),((HB.out.cell (World.block_lt_of_cell? w _ hw160_6)).trans hw160_6),((HB.out.cell (World.block_lt_of_cell? w _ hw160_7)).trans hw160_7),((HB.out.cell (World.block_lt_of_cell? w _ hw160_8)).trans hw160_8),((HB.out.cell (World.block_lt_of_cell? w _ hw161_0)).trans hw161_0),((HB.out.cell (World.block_lt_of_cell? w _ hw161_1)).trans hw161_1),((HB.out.cell (World.block_lt_of_cell? w _ hw161_2)).trans hw161_2),((HB.out.cell (World.block_lt_of_cell? w _ hw161_3)).trans hw161_3),((HB.out.cell (World.block_lt_of_cell? w _ hw161_4)).trans hw161_4),((HB.out.cell (World.block_lt_of_cell? w _ hw161_5)).trans hw161_5),((HB.out.cell (World.block_lt_of_cell? w _ hw161_6)).trans hw161_6),((HB.out.cell (World.block_lt_of_cell? w _ hw161_7)).trans hw161_7),((HB.out.cell (World.block_lt_of_cell? w _ hw161_8)).trans hw161_8)⟩ (fun hHeld => ?_); refine with_tabW laws_qdFs.tab6 laws_qdFs.bits6 (fun HT_ HW_ => ?_)
        generalize wr.drew = w16 at BK158 BK159 HB HR160_8 HR161_8 hx160_0 hx160_1 hx160_2 hx160_3 hx160_4 hx160_5 hx160_6 hx160_7 hx160_8 hx161_0 hx161_1 hx161_2 hx161_3 hx161_4 hx161_5 hx161_6 hx161_7 hx161_8 hHeld ⊢
        refine pure_ (i := 0) (N := some 20) (v := ?_) (a' := ?_) zb4_1 rfl rfl (any_of HT_.out (by kernel_rfl)) (fun _ _ _ h => h) (Or.inl ⟨by rfl,?_⟩) ?_ ?_
        rotate_left
        ·intro w'
         go_simp
         with_reducible rfl
        rotate_left
        ·simp only [Act.put,List.setIfInBounds_toArray,List.set_cons_zero,List.set_cons_succ,i64_w,i32_w]
         rfl
        refine pure_ (i := 2) (N := some 22) (v := ?_) (a' := ?_) zb4_2 rfl rfl (any_of HT_.out (by kernel_rfl)) (fun _ _ _ h => h) (Or.inl ⟨by rfl,?_⟩) ?_ ?_
        rotate_left
        ·intro w'
         go_simp
         with_reducible rfl
        rotate_left
        ·simp only [Act.put,List.setIfInBounds_toArray,List.set_cons_zero,List.set_cons_succ,i64_w,i32_w]
         rfl
        refine pure_ (i := 5) (N := some 25) (v := ?_) (a' := ?_) zb4_3 rfl rfl (any_of HT_.out (by kernel_rfl)) (fun _ _ _ h => h) (Or.inl ⟨by rfl,?_⟩) ?_ ?_
        rotate_left
        ·intro w'
         go_simp
         with_reducible rfl
        rotate_left
        ·simp only [Act.put,List.setIfInBounds_toArray,List.set_cons_zero,List.set_cons_succ,i64_w,i32_w]
         rfl
        refine pure_ (i := 7) (N := some 27) (v := ?_) (a' := ?_) zb4_4 rfl rfl (any_of HT_.out (by kernel_rfl)) (fun _ _ _ h => h) (Or.inl ⟨by rfl,?_⟩) ?_ ?_
        rotate_left
        ·intro w'
         go_simp
         with_reducible rfl
        rotate_left
        ·simp only [Act.put,List.setIfInBounds_toArray,List.set_cons_zero,List.set_cons_succ,i64_w,i32_w]
         rfl
        refine take_ (i := 1) (N := some 21) (v := ?_) (a' := ?_) zb4_5 rfl rfl (take_ofW HT_.out HW_.out (by kernel_rfl)) (fun _ _ _ h => h) (Or.inl ⟨by rfl,?_⟩) hHeld ?_ ?_
        rotate_left
        ·rintro w' ⟨s0,s1,s2,s3,s4,s5,s6,s7,s8,s9,s10,s11,s12,s13,s14,s15,s16,s17,s18,s19⟩
         go_simp
         with_reducible rfl
        rotate_left
        ·simp only [Act.put,List.setIfInBounds_toArray,List.set_cons_zero,List.set_cons_succ,i64_w,i32_w]
         rfl
        refine pure_ (i := 3) (N := some 23) (v := ?_) (a' := ?_) zb4_6 rfl rfl (any_of HT_.out (by kernel_rfl)) (fun _ _ _ h => h) (Or.inl ⟨by rfl,?_⟩) ?_ ?_
        rotate_left
        ·intro w'
         go_simp
         with_reducible rfl
        rotate_left
        ·simp only [Act.put,List.setIfInBounds_toArray,List.set_cons_zero,List.set_cons_succ,i64_w,i32_w]
         rfl
        refine take_ (i := 4) (N := some 24) (v := ?_) (a' := ?_) zb4_7 rfl rfl (take_ofW HT_.out HW_.out (by kernel_rfl)) (fun _ _ _ h => h) (Or.inl ⟨by rfl,?_⟩) hHeld ?_ ?_
        rotate_left
        ·rintro w' ⟨s0,s1,s2,s3,s4,s5,s6,s7,s8,s9,s10,s11,s12,s13,s14,s15,s16,s17,s18,s19⟩
         go_simp
         with_reducible rfl
        rotate_left
        ·simp only [Act.put,List.setIfInBounds_toArray,List.set_cons_zero,List.set_cons_succ,i64_w,i32_w]
         rfl
        refine take_ (i := 6) (N := some 26) (v := ?_) (a' := ?_) zb4_8 rfl rfl (take_ofW HT_.out HW_.out (by kernel_rfl)) (fun _ _ _ h => h) (Or.inl ⟨by rfl,?_⟩) hHeld ?_ ?_
        rotate_left
        ·rintro w' ⟨s0,s1,s2,s3,s4,s5,s6,s7,s8,s9,s10,s11,s12,s13,s14,s15,s16,s17,s18,s19⟩
         go_simp
         with_reducible rfl
        rotate_left
        ·simp only [Act.put,List.setIfInBounds_toArray,List.set_cons_zero,List.set_cons_succ,i64_w,i32_w]
         rfl
        refine pure_ (i := 8) (N := some 28) (v := ?_) (a' := ?_) zb4_9 rfl rfl (any_of HT_.out (by kernel_rfl)) (fun _ _ _ h => h) (Or.inl ⟨by rfl,?_⟩) ?_ ?_
        rotate_left
        ·intro w'
         go_simp
         with_reducible rfl
        rotate_left
        ·simp only [Act.put,List.setIfInBounds_toArray,List.set_cons_zero,List.set_cons_succ,i64_w,i32_w]
         rfl
        refine take_ (i := 9) (N := some 29) (v := ?_) (a' := ?_) zb4_10 rfl rfl (take_ofW HT_.out HW_.out (by kernel_rfl)) (fun _ _ _ h => h) (Or.inl ⟨by rfl,?_⟩) hHeld ?_ ?_
        rotate_left
        ·rintro w' ⟨s0,s1,s2,s3,s4,s5,s6,s7,s8,s9,s10,s11,s12,s13,s14,s15,s16,s17,s18,s19⟩
         go_simp
         with_reducible rfl
        rotate_left
        ·simp only [Act.put,List.setIfInBounds_toArray,List.set_cons_zero,List.set_cons_succ,i64_w,i32_w]
         rfl
        refine one_ (i := 10) (N := some 30) zb4_11 rfl rfl (one_of HT_.out (by kernel_rfl)) (by decide) (fun K hK => ?_)
        refine goes_ Try.func36 (by kernel_rfl) rfl #[.agg #[.int .i64 ((rd_T34 l0_0 x5_1).f0),.int .i64 ((rd_T34 l0_0 x5_1).f1),.int .i64 ((rd_T34 l0_0 x5_1).f2),.int .i64 ((rd_T34 l0_0 x5_1).f3),.int .i64 ((rd_T34 l0_0 x5_1).f4),.int .i64 ((rd_T34 l0_0 x5_1).f5),.bool ((rd_T34 l0_0 x5_1).f6),.string ((rd_T34 l0_0 x5_1).f7),.slice A160_8 ((rd_T34 l0_0 x5_1).f8).length c160_8],.agg #[.int .i64 ((rd_T34 l1_0 x5_1).f0),.int .i64 ((rd_T34 l1_0 x5_1).f1),.int .i64 ((rd_T34 l1_0 x5_1).f2),.int .i64 ((rd_T34 l1_0 x5_1).f3),.int .i64 ((rd_T34 l1_0 x5_1).f4),.int .i64 ((rd_T34 l1_0 x5_1).f5),.bool ((rd_T34 l1_0 x5_1).f6),.string ((rd_T34 l1_0 x5_1).f7),.slice A161_8 ((rd_T34 l1_0 x5_1).f8).length c161_8]] (by rfl) rfl rfl (by (try simp only [List.map_toArray,List.map_cons,List.map_nil]); first | done | rfl | (simp only [List.length_drop,List.length_take]; rfl)) ?_
        with_reducible refine (laws_qdInode.calls k1 ((rd_T34 l0_0 x5_1).f0) ((rd_T34 l0_0 x5_1).f1) ((rd_T34 l0_0 x5_1).f2) ((rd_T34 l0_0 x5_1).f3) ((rd_T34 l0_0 x5_1).f4) ((rd_T34 l0_0 x5_1).f5) ((rd_T34 l0_0 x5_1).f6) ((rd_T34 l0_0 x5_1).f7) _ _ ((rd_T34 l0_0 x5_1).f8) ((rd_T34 l1_0 x5_1).f0) ((rd_T34 l1_0 x5_1).f1) ((rd_T34 l1_0 x5_1).f2) ((rd_T34 l1_0 x5_1).f3) ((rd_T34 l1_0 x5_1).f4) ((rd_T34 l1_0 x5_1).f5) ((rd_T34 l1_0 x5_1).f6) ((rd_T34 l1_0 x5_1).f7) _ _ ((rd_T34 l1_0 x5_1).f8) true _ ?side1 ?side2 ?side3 ?side4 A12.out).mono ?_
        (case side1 => repeat (first | exact (Kd.C_below HR160_8.out HB.out) | (with_reducible refine Kd.C_alloc ?_ _) | (with_reducible refine Kd.C_drewN ?_ _) | (with_reducible refine Kd.C_drew ?_)));(case side2 => exact HC160_8.out);(case side3 => repeat (first | exact (Kd.C_below HR161_8.out HB.out) | (with_reducible refine Kd.C_alloc ?_ _) | (with_reducible refine Kd.C_drewN ?_ _) | (with_reducible refine Kd.C_drew ?_)));(case side4 => exact HC161_8.out)
        rintro e w17 ⟨rfl,hb⟩
        refine ⟨_,rfl,?_⟩
        have n0_ := Aside0.mk (blk_below (g := gb158) (o := .cells #[.slice (some ad160) l0_0.length c0_0] 27 (0,0)) (by (with_reducible repeat (first | refine blk_drewN ?_ _ | refine blk_drew ?_ | refine blk_alloc ?_ _)); exact BK158.out) hb);have n1_ := Aside0.mk (blk_below (g := gb159) (o := .cells #[.slice (some ad161) l1_0.length c1_0] 27 (0,0)) (by (with_reducible repeat (first | refine blk_drewN ?_ _ | refine blk_drew ?_ | refine blk_alloc ?_ _)); exact BK159.out) hb);have n2_ := Aside0.mk (below_step (by repeat (first | (with_reducible first | exact HB.out | apply below_alloc | apply pw_below_drewN | apply below_drew1 | refine below_set ?_ GE158.out | refine below_set ?_ GE159.out) | exact HB.out)) hb);clear BK158;clear BK159;clear HB;have BK158 := n0_;have BK159 := n1_;have HB := n2_;clear n0_ n1_ n2_;(try clear hb);(try clear hb2);(try clear hk);(try clear hi)
        refine hK.out _ _ ⟨(blk_cell BK158.out 0).trans rfl,(blk_cell BK159.out 0).trans rfl,((HB.out.cell (World.block_lt_of_cell? w _ hw160_0)).trans hw160_0),((HB.out.cell (World.block_lt_of_cell? w _ hw160_1)).trans hw160_1),((HB.out.cell (World.block_lt_of_cell? w _ hw160_2)).trans hw160_2),((HB.out.cell (World.block_lt_of_cell? w _ hw160_3)).trans hw160_3),((HB.out.cell (World.block_lt_of_cell? w _ hw160_4)).trans hw160_4),((HB.out.cell (World.block_lt_of_cell? w _ hw160_5)).trans hw160_5),((HB.out.cell (World.block_lt_of_cell? w _ hw160_6)).trans hw160_6),((HB.out.cell (World.block_lt_of_cell? w _ hw160_7)).trans hw160_7),((HB.out.cell (World.block_lt_of_cell? w _ hw160_8)).trans hw160_8),((HB.out.cell (World.block_lt_of_cell? w _ hw161_0)).trans hw161_0),((HB.out.cell (World.block_lt_of_cell? w _ hw161_1)).trans hw161_1),((HB.out.cell (World.block_lt_of_cell? w _ hw161_2)).trans hw161_2),((HB.out.cell (World.block_lt_of_cell? w _ hw161_3)).trans hw161_3),((HB.out.cell (World.block_lt_of_cell? w _ hw161_4)).trans hw161_4),((HB.out.cell (World.block_lt_of_cell? w _ hw161_5)).trans hw161_5),((HB.out.cell (World.block_lt_of_cell? w _ hw161_6)).trans hw161_6),((HB.out.cell (World.block_lt_of_cell? w _ hw161_7)).trans hw161_7),((HB.out.cell (World.block_lt_of_cell? w _ hw161_8)).trans hw161_8)⟩ (fun hHeld => ?_)
        clear hK K
        refine norm_ (a' := ?_) ?_ ?_
        rotate_left
        ·show Act.put _ (some 30) _ = _
         simp only [Act.put,List.setIfInBounds_toArray,List.set_cons_zero,List.set_cons_succ,i64_w,i32_w]
         rfl
        refine pure_ (i := 11) (N := some 31) (v := ?_) (a' := ?_) zb4_12 rfl rfl (any_of HT_.out (by kernel_rfl)) (fun _ _ _ h => h) (Or.inl ⟨by rfl,?_⟩) ?_ ?_
        rotate_left
        ·intro w'
         go_simp
         with_reducible rfl
        rotate_left
        ·simp only [Act.put,List.setIfInBounds_toArray,List.set_cons_zero,List.set_cons_succ,i64_w,i32_w]
         rfl
        refine done_ (done_of HT_.out (by kernel_rfl)) ?_
        try go_wp2
        go_roundg k1
        case measure => have := HK1.out; omega
        case rel => exact ⟨(wrap64 (x5_1 + 1)),(by first | rfl | (simp; done) | (simp [*]; done)),H',⟨by have := HK1.out; omega⟩,⟨by (with_reducible repeat (first | refine blk_drewN ?_ _ | refine blk_drew ?_ | refine blk_alloc ?_ _)); first | exact BK158.out | (simp only [*]; exact BK158.out)⟩,⟨by (with_reducible repeat (first | refine blk_drewN ?_ _ | refine blk_drew ?_ | refine blk_alloc ?_ _)); first | exact BK159.out | (simp only [*]; exact BK159.out)⟩,⟨by repeat (first | (with_reducible first | exact HB.out | apply below_alloc | apply pw_below_drewN | apply below_drew1 | refine below_set ?_ GE158.out | refine below_set ?_ GE159.out) | exact HB.out)⟩⟩
       ·replace c13 := Bool.eq_false_iff.mpr c13;subst c13;(have H1 : (some false) = some r := by rw [if_neg (show ¬ (false = true) by decide)] at H; exact H);clear H;have H := H1;clear H1;obtain rfl := Option.some.inj H
        simp only [Option.some.injEq,Prod.mk.injEq] at H
        obtain ⟨rfl⟩ := H;have hnb18 := NB158_159.out;have hnc18 := NB159_158.out;have hcz19 := pk1 BK158.out
        try go_wp2
        have n0_ := Aside0.mk (blk_drew BK158.out);have n1_ := Aside0.mk (blk_drew BK159.out);have n2_ := Aside0.mk (below_drew1 HB.out);clear BK158;clear BK159;clear HB;have BK158 := n0_;have BK159 := n1_;have HB := n2_;clear n0_ n1_ n2_;have p160 : 0 ≤ (x5_1 : Int) := of_decide_eq_true (by first | (with_reducible assumption) | assumption);have q160 : x5_1 < (l0_0.length : Int) := of_decide_eq_true (by first | (with_reducible assumption) | assumption);obtain ⟨ad160,A160_8,c160_8,e160,hx160_0,hx160_1,hx160_2,hx160_3,hx160_4,hx160_5,hx160_6,hx160_7,hx160_8,hl160_8,hi160_8⟩ := at_T34 HR0_0.out x5_1 p160 q160;have hw160_8 := hx160_8;have hw160_7 := hx160_7;have hw160_6 := hx160_6;have hw160_5 := hx160_5;have hw160_4 := hx160_4;have hw160_3 := hx160_3;have hw160_2 := hx160_2;have hw160_1 := hx160_1;have hw160_0 := hx160_0
        cases e160
        replace hx160_0 := (HB.out.cell (World.block_lt_of_cell? w _ hx160_0)).trans hx160_0;replace hx160_1 := (HB.out.cell (World.block_lt_of_cell? w _ hx160_1)).trans hx160_1;replace hx160_2 := (HB.out.cell (World.block_lt_of_cell? w _ hx160_2)).trans hx160_2;replace hx160_3 := (HB.out.cell (World.block_lt_of_cell? w _ hx160_3)).trans hx160_3;replace hx160_4 := (HB.out.cell (World.block_lt_of_cell? w _ hx160_4)).trans hx160_4;replace hx160_5 := (HB.out.cell (World.block_lt_of_cell? w _ hx160_5)).trans hx160_5;replace hx160_6 := (HB.out.cell (World.block_lt_of_cell? w _ hx160_6)).trans hx160_6;replace hx160_7 := (HB.out.cell (World.block_lt_of_cell? w _ hx160_7)).trans hx160_7;replace hx160_8 := (HB.out.cell (World.block_lt_of_cell? w _ hx160_8)).trans hx160_8;have HR160_8 := Aside0.mk hi160_8;have HC160_8 := Aside0.mk hl160_8;clear hi160_8 hl160_8;replace p160 := eq_true p160;replace q160 := eq_true q160;have p161 : 0 ≤ (x5_1 : Int) := of_decide_eq_true (by first | (with_reducible assumption) | assumption);have q161 : x5_1 < (l1_0.length : Int) := of_decide_eq_true (by first | (with_reducible assumption) | assumption);obtain ⟨ad161,A161_8,c161_8,e161,hx161_0,hx161_1,hx161_2,hx161_3,hx161_4,hx161_5,hx161_6,hx161_7,hx161_8,hl161_8,hi161_8⟩ := at_T34 HR1_0.out x5_1 p161 q161;have hw161_8 := hx161_8;have hw161_7 := hx161_7;have hw161_6 := hx161_6;have hw161_5 := hx161_5;have hw161_4 := hx161_4;have hw161_3 := hx161_3;have hw161_2 := hx161_2;have hw161_1 := hx161_1;have hw161_0 := hx161_0
        cases e161
        replace hx161_0 := (HB.out.cell (World.block_lt_of_cell? w _ hx161_0)).trans hx161_0;replace hx161_1 := (HB.out.cell (World.block_lt_of_cell? w _ hx161_1)).trans hx161_1;replace hx161_2 := (HB.out.cell (World.block_lt_of_cell? w _ hx161_2)).trans hx161_2;replace hx161_3 := (HB.out.cell (World.block_lt_of_cell? w _ hx161_3)).trans hx161_3;replace hx161_4 := (HB.out.cell (World.block_lt_of_cell? w _ hx161_4)).trans hx161_4;replace hx161_5 := (HB.out.cell (World.block_lt_of_cell? w _ hx161_5)).trans hx161_5;replace hx161_6 := (HB.out.cell (World.block_lt_of_cell? w _ hx161_6)).trans hx161_6;replace hx161_7 := (HB.out.cell (World.block_lt_of_cell? w _ hx161_7)).trans hx161_7;replace hx161_8 := (HB.out.cell (World.block_lt_of_cell? w _ hx161_8)).trans hx161_8;have HR161_8 := Aside0.mk hi161_8;have HC161_8 := Aside0.mk hl161_8;clear hi161_8 hl161_8;replace p161 := eq_true p161;replace q161 := eq_true q161
        refine start_ (n := 12) (S := fun w' => w'.cell? ⟨gb158,0,none⟩ = some (.slice (some ad160) l0_0.length c0_0) ∧ w'.cell? ⟨gb159,0,none⟩ = some (.slice (some ad161) l1_0.length c1_0) ∧ w'.cell? (ad160.add ((x5_1).toNat * 9)) = some (.int .i64 ((rd_T34 l0_0 x5_1).f0)) ∧ w'.cell? ⟨(ad160.add ((x5_1).toNat * 9)).block,(ad160.add ((x5_1).toNat * 9)).off + 1,none⟩ = some (.int .i64 ((rd_T34 l0_0 x5_1).f1)) ∧ w'.cell? ⟨(ad160.add ((x5_1).toNat * 9)).block,(ad160.add ((x5_1).toNat * 9)).off + 2,none⟩ = some (.int .i64 ((rd_T34 l0_0 x5_1).f2)) ∧ w'.cell? ⟨(ad160.add ((x5_1).toNat * 9)).block,(ad160.add ((x5_1).toNat * 9)).off + 3,none⟩ = some (.int .i64 ((rd_T34 l0_0 x5_1).f3)) ∧ w'.cell? ⟨(ad160.add ((x5_1).toNat * 9)).block,(ad160.add ((x5_1).toNat * 9)).off + 4,none⟩ = some (.int .i64 ((rd_T34 l0_0 x5_1).f4)) ∧ w'.cell? ⟨(ad160.add ((x5_1).toNat * 9)).block,(ad160.add ((x5_1).toNat * 9)).off + 5,none⟩ = some (.int .i64 ((rd_T34 l0_0 x5_1).f5)) ∧ w'.cell? ⟨(ad160.add ((x5_1).toNat * 9)).block,(ad160.add ((x5_1).toNat * 9)).off + 6,none⟩ = some (.bool ((rd_T34 l0_0 x5_1).f6)) ∧ w'.cell? ⟨(ad160.add ((x5_1).toNat * 9)).block,(ad160.add ((x5_1).toNat * 9)).off + 7,none⟩ = some (.string ((rd_T34 l0_0 x5_1).f7)) ∧ w'.cell? ⟨(ad160.add ((x5_1).toNat * 9)).block,(ad160.add ((x5_1).toNat * 9)).off + 8,none⟩ = some (.slice A160_8 ((rd_T34 l0_0 x5_1).f8).length c160_8) ∧ w'.cell? (ad161.add ((x5_1).toNat * 9)) = some (.int .i64 ((rd_T34 l1_0 x5_1).f0)) ∧ w'.cell? ⟨(ad161.add ((x5_1).toNat * 9)).block,(ad161.add ((x5_1).toNat * 9)).off + 1,none⟩ = some (.int .i64 ((rd_T34 l1_0 x5_1).f1)) ∧ w'.cell? ⟨(ad161.add ((x5_1).toNat * 9)).block,(ad161.add ((x5_1).toNat * 9)).off + 2,none⟩ = some (.int .i64 ((rd_T34 l1_0 x5_1).f2)) ∧ w'.cell? ⟨(ad161.add ((x5_1).toNat * 9)).block,(ad161.add ((x5_1).toNat * 9)).off + 3,none⟩ = some (.int .i64 ((rd_T34 l1_0 x5_1).f3)) ∧ w'.cell? ⟨(ad161.add ((x5_1).toNat * 9)).block,(ad161.add ((x5_1).toNat * 9)).off + 4,none⟩ = some (.int .i64 ((rd_T34 l1_0 x5_1).f4)) ∧ w'.cell? ⟨(ad161.add ((x5_1).toNat * 9)).block,(ad161.add ((x5_1).toNat * 9)).off + 5,none⟩ = some (.int .i64 ((rd_T34 l1_0 x5_1).f5)) ∧ w'.cell? ⟨(ad161.add ((x5_1).toNat * 9)).block,(ad161.add ((x5_1).toNat * 9)).off + 6,none⟩ = some (.bool ((rd_T34 l1_0 x5_1).f6)) ∧ w'.cell? ⟨(ad161.add ((x5_1).toNat * 9)).block,(ad161.add ((x5_1).toNat * 9)).off + 7,none⟩ = some (.string ((rd_T34 l1_0 x5_1).f7)) ∧ w'.cell? ⟨(ad161.add ((x5_1).toNat * 9)).block,(ad161.add ((x5_1).toNat * 9)).off + 8,none⟩ = some (.slice A161_8 ((rd_T34 l1_0 x5_1).f8).length c161_8)) (ds := []) zb4_0 (by kernel_rfl) rfl rfl ⟨(blk_cell BK158.out 0).trans rfl,(blk_cell BK159.out 0).trans rfl,((HB.out.cell (World.block_lt_of_cell? w _ hw160_0)).trans hw160_0),((HB.out.cell (World.block_lt_of_cell? w _ hw160_1)).trans hw160_1),((HB.out.cell (World.block_lt_of_cell? w _ hw160_2)).trans hw160_2),((HB.out.cell (World.block_lt_of_cell? w _ hw160_3)).trans hw160_3),((HB.out.cell (World.block_lt_of_cell? w _ hw160_4)).trans hw160_4),((HB.out.cell (World.block_lt_of_cell? w _ hw160_5)).trans hw160_5),((HB.out.cell (World.block_lt_of_cell? w _ hw160_6)).trans hw160_6),((HB.out.cell (World.block_lt_of_cell? w _ hw160_7)).trans hw160_7),((HB.out.cell (World.block_lt_of_cell? w _ hw160_8)).trans hw160_8),((HB.out.cell (World.block_lt_of_cell? w _ hw161_0)).trans hw161_0),((HB.out.cell (World.block_lt_of_cell? w _ hw161_1)).trans hw161_1),((HB.out.cell (World.block_lt_of_cell? w _ hw161_2)).trans hw161_2),((HB.out.cell (World.block_lt_of_cell? w _ hw161_3)).trans hw161_3),((HB.out.cell (World.block_lt_of_cell? w _ hw161_4)).trans hw161_4),((HB.out.cell (World.block_lt_of_cell? w _ hw161_5)).trans hw161_5),((HB.out.cell (World.block_lt_of_cell? w _ hw161_6)).trans hw161_6),((HB.out.cell (World.block_lt_of_cell? w _ hw161_7)).trans hw161_7),((HB.out.cell (World.block_lt_of_cell? w _ hw161_8)).trans hw161_8)⟩ (fun hHeld => ?_); refine with_tabW laws_qdFs.tab6 laws_qdFs.bits6 (fun HT_ HW_ => ?_)
        generalize wr.drew = w20 at BK158 BK159 HB HR160_8 HR161_8 hx160_0 hx160_1 hx160_2 hx160_3 hx160_4 hx160_5 hx160_6 hx160_7 hx160_8 hx161_0 hx161_1 hx161_2 hx161_3 hx161_4 hx161_5 hx161_6 hx161_7 hx161_8 hHeld ⊢
        refine pure_ (i := 0) (N := some 20) (v := ?_) (a' := ?_) zb4_1 rfl rfl (any_of HT_.out (by kernel_rfl)) (fun _ _ _ h => h) (Or.inl ⟨by rfl,?_⟩) ?_ ?_
        rotate_left
        ·intro w'
         go_simp
         with_reducible rfl
        rotate_left
        ·simp only [Act.put,List.setIfInBounds_toArray,List.set_cons_zero,List.set_cons_succ,i64_w,i32_w]
         rfl
        refine pure_ (i := 2) (N := some 22) (v := ?_) (a' := ?_) zb4_2 rfl rfl (any_of HT_.out (by kernel_rfl)) (fun _ _ _ h => h) (Or.inl ⟨by rfl,?_⟩) ?_ ?_
        rotate_left
        ·intro w'
         go_simp
         with_reducible rfl
        rotate_left
        ·simp only [Act.put,List.setIfInBounds_toArray,List.set_cons_zero,List.set_cons_succ,i64_w,i32_w]
         rfl
        refine pure_ (i := 5) (N := some 25) (v := ?_) (a' := ?_) zb4_3 rfl rfl (any_of HT_.out (by kernel_rfl)) (fun _ _ _ h => h) (Or.inl ⟨by rfl,?_⟩) ?_ ?_
        rotate_left
        ·intro w'
         go_simp
         with_reducible rfl
        rotate_left
        ·simp only [Act.put,List.setIfInBounds_toArray,List.set_cons_zero,List.set_cons_succ,i64_w,i32_w]
         rfl
        refine pure_ (i := 7) (N := some 27) (v := ?_) (a' := ?_) zb4_4 rfl rfl (any_of HT_.out (by kernel_rfl)) (fun _ _ _ h => h) (Or.inl ⟨by rfl,?_⟩) ?_ ?_
        rotate_left
        ·intro w'
         go_simp
         with_reducible rfl
        rotate_left
        ·simp only [Act.put,List.setIfInBounds_toArray,List.set_cons_zero,List.set_cons_succ,i64_w,i32_w]
         rfl
        refine take_ (i := 1) (N := some 21) (v := ?_) (a' := ?_) zb4_5 rfl rfl (take_ofW HT_.out HW_.out (by kernel_rfl)) (fun _ _ _ h => h) (Or.inl ⟨by rfl,?_⟩) hHeld ?_ ?_
        rotate_left
        ·rintro w' ⟨s0,s1,s2,s3,s4,s5,s6,s7,s8,s9,s10,s11,s12,s13,s14,s15,s16,s17,s18,s19⟩
         go_simp
         with_reducible rfl
        rotate_left
        ·simp only [Act.put,List.setIfInBounds_toArray,List.set_cons_zero,List.set_cons_succ,i64_w,i32_w]
         rfl
        refine pure_ (i := 3) (N := some 23) (v := ?_) (a' := ?_) zb4_6 rfl rfl (any_of HT_.out (by kernel_rfl)) (fun _ _ _ h => h) (Or.inl ⟨by rfl,?_⟩) ?_ ?_
        rotate_left
        ·intro w'
         go_simp
         with_reducible rfl
        rotate_left
        ·simp only [Act.put,List.setIfInBounds_toArray,List.set_cons_zero,List.set_cons_succ,i64_w,i32_w]
         rfl
        refine take_ (i := 4) (N := some 24) (v := ?_) (a' := ?_) zb4_7 rfl rfl (take_ofW HT_.out HW_.out (by kernel_rfl)) (fun _ _ _ h => h) (Or.inl ⟨by rfl,?_⟩) hHeld ?_ ?_
        rotate_left
        ·rintro w' ⟨s0,s1,s2,s3,s4,s5,s6,s7,s8,s9,s10,s11,s12,s13,s14,s15,s16,s17,s18,s19⟩
         go_simp
         with_reducible rfl
        rotate_left
        ·simp only [Act.put,List.setIfInBounds_toArray,List.set_cons_zero,List.set_cons_succ,i64_w,i32_w]
         rfl
        refine take_ (i := 6) (N := some 26) (v := ?_) (a' := ?_) zb4_8 rfl rfl (take_ofW HT_.out HW_.out (by kernel_rfl)) (fun _ _ _ h => h) (Or.inl ⟨by rfl,?_⟩) hHeld ?_ ?_
        rotate_left
        ·rintro w' ⟨s0,s1,s2,s3,s4,s5,s6,s7,s8,s9,s10,s11,s12,s13,s14,s15,s16,s17,s18,s19⟩
         go_simp
         with_reducible rfl
        rotate_left
        ·simp only [Act.put,List.setIfInBounds_toArray,List.set_cons_zero,List.set_cons_succ,i64_w,i32_w]
         rfl
        refine pure_ (i := 8) (N := some 28) (v := ?_) (a' := ?_) zb4_9 rfl rfl (any_of HT_.out (by kernel_rfl)) (fun _ _ _ h => h) (Or.inl ⟨by rfl,?_⟩) ?_ ?_
        rotate_left
        ·intro w'
         go_simp
         with_reducible rfl
        rotate_left
        ·simp only [Act.put,List.setIfInBounds_toArray,List.set_cons_zero,List.set_cons_succ,i64_w,i32_w]
         rfl
        refine take_ (i := 9) (N := some 29) (v := ?_) (a' := ?_) zb4_10 rfl rfl (take_ofW HT_.out HW_.out (by kernel_rfl)) (fun _ _ _ h => h) (Or.inl ⟨by rfl,?_⟩) hHeld ?_ ?_
        rotate_left
        ·rintro w' ⟨s0,s1,s2,s3,s4,s5,s6,s7,s8,s9,s10,s11,s12,s13,s14,s15,s16,s17,s18,s19⟩
         go_simp
         with_reducible rfl
        rotate_left
        ·simp only [Act.put,List.setIfInBounds_toArray,List.set_cons_zero,List.set_cons_succ,i64_w,i32_w]
         rfl
        refine one_ (i := 10) (N := some 30) zb4_11 rfl rfl (one_of HT_.out (by kernel_rfl)) (by decide) (fun K hK => ?_)
        refine goes_ Try.func36 (by kernel_rfl) rfl #[.agg #[.int .i64 ((rd_T34 l0_0 x5_1).f0),.int .i64 ((rd_T34 l0_0 x5_1).f1),.int .i64 ((rd_T34 l0_0 x5_1).f2),.int .i64 ((rd_T34 l0_0 x5_1).f3),.int .i64 ((rd_T34 l0_0 x5_1).f4),.int .i64 ((rd_T34 l0_0 x5_1).f5),.bool ((rd_T34 l0_0 x5_1).f6),.string ((rd_T34 l0_0 x5_1).f7),.slice A160_8 ((rd_T34 l0_0 x5_1).f8).length c160_8],.agg #[.int .i64 ((rd_T34 l1_0 x5_1).f0),.int .i64 ((rd_T34 l1_0 x5_1).f1),.int .i64 ((rd_T34 l1_0 x5_1).f2),.int .i64 ((rd_T34 l1_0 x5_1).f3),.int .i64 ((rd_T34 l1_0 x5_1).f4),.int .i64 ((rd_T34 l1_0 x5_1).f5),.bool ((rd_T34 l1_0 x5_1).f6),.string ((rd_T34 l1_0 x5_1).f7),.slice A161_8 ((rd_T34 l1_0 x5_1).f8).length c161_8]] (by rfl) rfl rfl (by (try simp only [List.map_toArray,List.map_cons,List.map_nil]); first | done | rfl | (simp only [List.length_drop,List.length_take]; rfl)) ?_
        with_reducible refine (laws_qdInode.calls k1 ((rd_T34 l0_0 x5_1).f0) ((rd_T34 l0_0 x5_1).f1) ((rd_T34 l0_0 x5_1).f2) ((rd_T34 l0_0 x5_1).f3) ((rd_T34 l0_0 x5_1).f4) ((rd_T34 l0_0 x5_1).f5) ((rd_T34 l0_0 x5_1).f6) ((rd_T34 l0_0 x5_1).f7) _ _ ((rd_T34 l0_0 x5_1).f8) ((rd_T34 l1_0 x5_1).f0) ((rd_T34 l1_0 x5_1).f1) ((rd_T34 l1_0 x5_1).f2) ((rd_T34 l1_0 x5_1).f3) ((rd_T34 l1_0 x5_1).f4) ((rd_T34 l1_0 x5_1).f5) ((rd_T34 l1_0 x5_1).f6) ((rd_T34 l1_0 x5_1).f7) _ _ ((rd_T34 l1_0 x5_1).f8) false _ ?side1 ?side2 ?side3 ?side4 A12.out).mono ?_
        (case side1 => repeat (first | exact (Kd.C_below HR160_8.out HB.out) | (with_reducible refine Kd.C_alloc ?_ _) | (with_reducible refine Kd.C_drewN ?_ _) | (with_reducible refine Kd.C_drew ?_)));(case side2 => exact HC160_8.out);(case side3 => repeat (first | exact (Kd.C_below HR161_8.out HB.out) | (with_reducible refine Kd.C_alloc ?_ _) | (with_reducible refine Kd.C_drewN ?_ _) | (with_reducible refine Kd.C_drew ?_)));(case side4 => exact HC161_8.out)
        rintro e w21 ⟨rfl,hb⟩
        refine ⟨_,rfl,?_⟩
        have n0_ := Aside0.mk (blk_below (g := gb158) (o := .cells #[.slice (some ad160) l0_0.length c0_0] 27 (0,0)) (by (with_reducible repeat (first | refine blk_drewN ?_ _ | refine blk_drew ?_ | refine blk_alloc ?_ _)); exact BK158.out) hb);have n1_ := Aside0.mk (blk_below (g := gb159) (o := .cells #[.slice (some ad161) l1_0.length c1_0] 27 (0,0)) (by (with_reducible repeat (first | refine blk_drewN ?_ _ | refine blk_drew ?_ | refine blk_alloc ?_ _)); exact BK159.out) hb);have n2_ := Aside0.mk (below_step (by repeat (first | (with_reducible first | exact HB.out | apply below_alloc | apply pw_below_drewN | apply below_drew1 | refine below_set ?_ GE158.out | refine below_set ?_ GE159.out) | exact HB.out)) hb);clear BK158;clear BK159;clear HB;have BK158 := n0_;have BK159 := n1_;have HB := n2_;clear n0_ n1_ n2_;(try clear hb);(try clear hb2);(try clear hk);(try clear hi)
        refine hK.out _ _ ⟨(blk_cell BK158.out 0).trans rfl,(blk_cell BK159.out 0).trans rfl,((HB.out.cell (World.block_lt_of_cell? w _ hw160_0)).trans hw160_0),((HB.out.cell (World.block_lt_of_cell? w _ hw160_1)).trans hw160_1),((HB.out.cell (World.block_lt_of_cell? w _ hw160_2)).trans hw160_2),((HB.out.cell (World.block_lt_of_cell? w _ hw160_3)).trans hw160_3),((HB.out.cell (World.block_lt_of_cell? w _ hw160_4)).trans hw160_4),((HB.out.cell (World.block_lt_of_cell? w _ hw160_5)).trans hw160_5),((HB.out.cell (World.block_lt_of_cell? w _ hw160_6)).trans hw160_6),((HB.out.cell (World.block_lt_of_cell? w _ hw160_7)).trans hw160_7),((HB.out.cell (World.block_lt_of_cell? w _ hw160_8)).trans hw160_8),((HB.out.cell (World.block_lt_of_cell? w _ hw161_0)).trans hw161_0),((HB.out.cell (World.block_lt_of_cell? w _ hw161_1)).trans hw161_1),((HB.out.cell (World.block_lt_of_cell? w _ hw161_2)).trans hw161_2),((HB.out.cell (World.block_lt_of_cell? w _ hw161_3)).trans hw161_3),((HB.out.cell (World.block_lt_of_cell? w _ hw161_4)).trans hw161_4),((HB.out.cell (World.block_lt_of_cell? w _ hw161_5)).trans hw161_5),((HB.out.cell (World.block_lt_of_cell? w _ hw161_6)).trans hw161_6),((HB.out.cell (World.block_lt_of_cell? w _ hw161_7)).trans hw161_7),((HB.out.cell (World.block_lt_of_cell? w _ hw161_8)).trans hw161_8)⟩ (fun hHeld => ?_)
        clear hK K
        refine norm_ (a' := ?_) ?_ ?_
        rotate_left
        ·show Act.put _ (some 30) _ = _
         simp only [Act.put,List.setIfInBounds_toArray,List.set_cons_zero,List.set_cons_succ,i64_w,i32_w]
         rfl
        refine pure_ (i := 11) (N := some 31) (v := ?_) (a' := ?_) zb4_12 rfl rfl (any_of HT_.out (by kernel_rfl)) (fun _ _ _ h => h) (Or.inl ⟨by rfl,?_⟩) ?_ ?_
        rotate_left
        ·intro w'
         go_simp
         with_reducible rfl
        rotate_left
        ·simp only [Act.put,List.setIfInBounds_toArray,List.set_cons_zero,List.set_cons_succ,i64_w,i32_w]
         rfl
        refine done_ (done_of HT_.out (by kernel_rfl)) ?_
        try go_wp2
        go_ret
        exact ⟨by first | rfl | (simp [errW_none,errW_some] <;> rfl) | (simp [*,errW_none,errW_some] <;> rfl),by repeat (first | (with_reducible first | exact HB.out | apply below_alloc | apply pw_below_drewN | apply below_drew1 | refine below_set ?_ GE158.out | refine below_set ?_ GE159.out) | exact HB.out)⟩
      ·rw [if_neg c11] at H
       exact absurd H (by simp)
     ·rw [if_neg c10] at H
      exact absurd H (by simp)
    ·rw [if_neg c9] at H;have c9b0 : decide (x5_1 < (l0_0.length : Int)) = false := decide_eq_false c9;clear c9;obtain rfl := Option.some.inj H
     simp only [Option.some.injEq,Prod.mk.injEq] at H
     obtain ⟨rfl⟩ := H;have hnb22 := NB158_159.out;have hnc22 := NB159_158.out;have hcz23 := pk1 BK158.out
     go_wp2
     go_ret
     exact ⟨by first | rfl | (simp [errW_none,errW_some] <;> rfl) | (simp [*,errW_none,errW_some] <;> rfl),by repeat (first | (with_reducible first | exact HB.out | apply below_alloc | apply pw_below_drewN | apply below_drew1 | refine below_set ?_ GE158.out | refine below_set ?_ GE159.out) | exact HB.out)⟩
 ·rw [if_neg c3] at H;have c3b0 : ((l0_0.length : Int) == (l1_0.length : Int)) = false := beq_eq_false_iff_ne.mpr c3;have c3b1 : ((l0_0.length : Int) != (l1_0.length : Int)) = true := bne_iff_ne.mpr c3;(have c3b2 : (l0_0.length == l1_0.length) = false := by first | simpa using c3 | (simp at c3 ⊢; omega));obtain rfl := Option.some.inj H
  simp only [Option.some.injEq,Prod.mk.injEq] at H
  obtain ⟨rfl⟩ := H
  go_enter Try.func13,Try.ntmps13
  go_wp2_with (first | ((with_reducible refine gate_dst (N := 2) rfl ?_); refine box_event ?hg (N := 2) ?hd (cs := #[.slice A0_0 l0_0.length c0_0]) (t := 27) ?hr ?_; (case hd => rfl); (case hg => rfl); (case hr => first | (go_simp; done) | (go_simp; rfl)); intro gb158 hg w24 hbox hb; have n0_ := Aside0.mk (below_step (by repeat (first | (with_reducible first | exact HB.out | apply below_alloc | apply pw_below_drewN | apply below_drew1) | exact HB.out)) hb); have n1_ := Aside0.mk (hbox); have n2_ := Aside0.mk ((by rw [hg]; exact (below_size (by repeat (first | (with_reducible first | exact HB.out | apply below_alloc | apply pw_below_drewN | apply below_drew1) | exact HB.out))) : w.heap.size ≤ gb158)); have n3_ := Aside0.mk ((by rw [hg]; exact (below_size (by repeat (first | (with_reducible first | exact HB.out | apply below_alloc | apply pw_below_drewN | apply below_drew1) | exact HB.out))) : w.heap.size ≤ gb158)); clear HB; have HB := n0_; have BK158 := n1_; have GW158 := n2_; have GE158 := n3_; clear n0_ n1_ n2_ n3_; clear hb hbox hg) | ((with_reducible refine gate_dst (N := 3) rfl ?_); refine box_event ?hg (N := 3) ?hd (cs := #[.slice A1_0 l1_0.length c1_0]) (t := 27) ?hr ?_; (case hd => rfl); (case hg => rfl); (case hr => first | (go_simp; done) | (go_simp; rfl)); intro gb159 hg w25 hbox hb; have n0_ := Aside0.mk (blk_below (g := gb158) (o := .cells #[.slice A0_0 l0_0.length c0_0] 27 (0,0)) (by (with_reducible repeat (first | refine blk_drewN ?_ _ | refine blk_drew ?_ | refine blk_alloc ?_ _)); exact BK158.out) hb); have n1_ := Aside0.mk (below_step (by repeat (first | (with_reducible first | exact HB.out | apply below_alloc | apply pw_below_drewN | apply below_drew1 | refine below_set ?_ GE158.out) | exact HB.out)) hb); have n2_ := Aside0.mk (hbox); have n3_ := Aside0.mk ((by rw [hg]; exact (below_size (by repeat (first | (with_reducible first | exact HB.out | apply below_alloc | apply pw_below_drewN | apply below_drew1 | refine below_set ?_ GE158.out) | exact HB.out))) : w.heap.size ≤ gb159)); have n4_ := Aside0.mk ((by rw [hg]; exact (below_size (by repeat (first | (with_reducible first | exact HB.out | apply below_alloc | apply pw_below_drewN | apply below_drew1 | refine below_set ?_ GE158.out) | exact HB.out))) : w.heap.size ≤ gb159)); have n5_ := Aside0.mk ((by rw [hg]; exact Nat.ne_of_lt (blk_lt (g := gb158) (o := .cells #[.slice A0_0 l0_0.length c0_0] 27 (0,0)) (by (with_reducible repeat (first | refine blk_drewN ?_ _ | refine blk_drew ?_ | refine blk_alloc ?_ _)); exact BK158.out)) : gb158 ≠ gb159)); have n6_ := Aside0.mk ((by rw [hg]; exact Nat.ne_of_gt (blk_lt (g := gb158) (o := .cells #[.slice A0_0 l0_0.length c0_0] 27 (0,0)) (by (with_reducible repeat (first | refine blk_drewN ?_ _ | refine blk_drew ?_ | refine blk_alloc ?_ _)); exact BK158.out)) : gb159 ≠ gb158)); clear BK158; clear HB; have BK158 := n0_; have HB := n1_; have BK159 := n2_; have GW159 := n3_; have GE159 := n4_; have NB158_159 := n5_; have NB159_158 := n6_; clear n0_ n1_ n2_ n3_ n4_ n5_ n6_; clear hb hbox hg; have hnb26 := NB158_159.out; have hnc26 := NB159_158.out; have hcz27 := pk1 BK158.out; have hcz28 := pk1 BK159.out))
  go_ret
  exact ⟨by first | rfl | (simp [errW_none,errW_some] <;> rfl) | (simp [*,errW_none,errW_some] <;> rfl),by repeat (first | (with_reducible first | exact HB.out | apply below_alloc | apply pw_below_drewN | apply below_drew1 | refine below_set ?_ GE158.out | refine below_set ?_ GE159.out) | exact HB.out)⟩

/-! ### impl_Inode_zero: function 37 -/
def impl_Inode_zero.f (a0_0 : Int) (a0_1 : Int) (a0_2 : Int) (a0_3 : Int) (a0_4 : Int) (a0_5 : Int) (a0_6 : Bool) (a0_7 : ByteArray) (l0_8 : List (S47)) : Option (Bool) := if a0_0 = 0 then (if a0_1 = 0 then (if a0_2 = 0 then (if a0_3 = 0 then (if a0_4 = 0 then (if a0_5 = 0 then (if a0_6 = true then (some false) else (if a0_7.toList = ([] : List UInt8) then (some ((l0_8.length : Int) == 0)) else (some false))) else (some false)) else (some false)) else (some false)) else (some false)) else (some false)) else (some false)
set_option maxHeartbeats 8000000 in
set_option maxRecDepth 100000 in
theorem impl_Inode_zero.calls (a0_0 : Int) (a0_1 : Int) (a0_2 : Int) (a0_3 : Int) (a0_4 : Int) (a0_5 : Int) (a0_6 : Bool) (a0_7 : ByteArray) (A0_8 : Option Addr) (c0_8 : Nat) (l0_8 : List (S47)) (r : Bool) (w : World) (hr0_8 : Kd.C k47 w A0_8 l0_8.length l0_8) (hc0_8 : l0_8.length ≤ c0_8) (h : impl_Inode_zero.f a0_0 a0_1 a0_2 a0_3 a0_4 a0_5 a0_6 a0_7 l0_8 = some r) :
  Calls Try.prog 37 #[.agg #[.int .i64 a0_0,.int .i64 a0_1,.int .i64 a0_2,.int .i64 a0_3,.int .i64 a0_4,.int .i64 a0_5,.bool a0_6,.string a0_7,.slice A0_8 l0_8.length c0_8]] w fun e w' => e = .returned (.bool r) ∧ Below w.heap.size w w' := by
 have hu34 := Try.underlying34;have HR0_8 := Aside0.mk hr0_8;have HC0_8 := Aside0.mk hc0_8;clear hr0_8 hc0_8;have HB := Aside0.mk (Below.refl w.heap.size w);have H : (if a0_0 = 0 then (if a0_1 = 0 then (if a0_2 = 0 then (if a0_3 = 0 then (if a0_4 = 0 then (if a0_5 = 0 then (if a0_6 = true then (some false) else (if a0_7.toList = ([] : List UInt8) then (some ((l0_8.length : Int) == 0)) else (some false))) else (some false)) else (some false)) else (some false)) else (some false)) else (some false)) else (some false)) = some r := h;clear h
 go_enter Try.func37,Try.ntmps37
 go_upto_region 1 with (first | ((with_reducible refine gate_dst (N := 1) rfl ?_); (try (refine gate_guard (by rfl) ?_; dsimp only)); refine box_event ?hg (N := 1) ?hd (cs := #[.int .i64 a0_0,.int .i64 a0_1,.int .i64 a0_2,.int .i64 a0_3,.int .i64 a0_4,.int .i64 a0_5,.bool a0_6,.string a0_7,.slice A0_8 l0_8.length c0_8]) (t := 34) ?hr ?_; (case hd => rfl); (case hg => rfl); (case hr => first | (go_simp; done) | (go_simp; rfl)); intro gb163 hg w2 hbox hb; have n0_ := Aside0.mk (below_step (by repeat (first | (with_reducible first | exact HB.out | apply below_alloc | apply pw_below_drewN | apply below_drew1) | exact HB.out)) hb); have n1_ := Aside0.mk (hbox); have n2_ := Aside0.mk ((by rw [hg]; exact (below_size (by repeat (first | (with_reducible first | exact HB.out | apply below_alloc | apply pw_below_drewN | apply below_drew1) | exact HB.out))) : w.heap.size ≤ gb163)); have n3_ := Aside0.mk ((by rw [hg]; exact (below_size (by repeat (first | (with_reducible first | exact HB.out | apply below_alloc | apply pw_below_drewN | apply below_drew1) | exact HB.out))) : w.heap.size ≤ gb163)); clear HB; have HB := n0_; have BK163 := n1_; have GW163 := n2_; have GE163 := n3_; clear n0_ n1_ n2_ n3_; clear hb hbox hg))
 (try simp only [Act.put,List.setIfInBounds_toArray,List.set_cons_zero,List.set_cons_succ]);by_cases c3 : a0_0 = 0
 ·rw [if_pos c3] at H;have c3b0 : (a0_0 == 0) = true := beq_iff_eq.mpr c3;have c3b1 : (a0_0 != 0) = false := bne_eq_false_iff_eq.mpr c3;clear c3;by_cases c4 : a0_1 = 0
  ·rw [if_pos c4] at H;have c4b0 : (a0_1 == 0) = true := beq_iff_eq.mpr c4;have c4b1 : (a0_1 != 0) = false := bne_eq_false_iff_eq.mpr c4;clear c4;by_cases c5 : a0_2 = 0
   ·rw [if_pos c5] at H;have c5b0 : (a0_2 == 0) = true := beq_iff_eq.mpr c5;have c5b1 : (a0_2 != 0) = false := bne_eq_false_iff_eq.mpr c5;clear c5;by_cases c6 : a0_3 = 0
    ·rw [if_pos c6] at H;have c6b0 : (a0_3 == 0) = true := beq_iff_eq.mpr c6;have c6b1 : (a0_3 != 0) = false := bne_eq_false_iff_eq.mpr c6;clear c6;by_cases c7 : a0_4 = 0
     ·rw [if_pos c7] at H;have c7b0 : (a0_4 == 0) = true := beq_iff_eq.mpr c7;have c7b1 : (a0_4 != 0) = false := bne_eq_false_iff_eq.mpr c7;clear c7;by_cases c8 : a0_5 = 0
      ·rw [if_pos c8] at H;have c8b0 : (a0_5 == 0) = true := beq_iff_eq.mpr c8;have c8b1 : (a0_5 != 0) = false := bne_eq_false_iff_eq.mpr c8;clear c8;by_cases c9 : a0_6 = true
       ·subst c9;(have H1 : (some false) = some r := by rw [if_pos rfl] at H; exact H);clear H;have H := H1;clear H1;obtain rfl := Option.some.inj H
        simp only [Option.some.injEq,Prod.mk.injEq] at H
        obtain ⟨rfl⟩ := H;have hcz10 := pk9 BK163.out
        go_wp2
        go_ret
        exact ⟨by first | rfl | (simp [errW_none,errW_some] <;> rfl) | (simp [*,errW_none,errW_some] <;> rfl),by repeat (first | (with_reducible first | exact HB.out | apply below_alloc | apply pw_below_drewN | apply below_drew1 | refine below_set ?_ GE163.out) | exact HB.out)⟩
       ·replace c9 := Bool.eq_false_iff.mpr c9;subst c9;(have H1 : (if a0_7.toList = ([] : List UInt8) then (some ((l0_8.length : Int) == 0)) else (some false)) = some r := by rw [if_neg (show ¬ (false = true) by decide)] at H; exact H);clear H;have H := H1;clear H1;by_cases c11 : a0_7.toList = ([] : List UInt8)
        ·rw [if_pos c11] at H;have c11b0 : (a0_7.toList == ([] : List UInt8)) = true := beq_iff_eq.mpr c11;have c11b1 : (a0_7.toList != ([] : List UInt8)) = false := bne_eq_false_iff_eq.mpr c11;clear c11;obtain rfl := Option.some.inj H
         simp only [Option.some.injEq,Prod.mk.injEq] at H
         obtain ⟨rfl⟩ := H;have hcz12 := pk9 BK163.out
         go_wp2
         go_ret
         exact ⟨by first | rfl | (simp [errW_none,errW_some] <;> rfl) | (simp [*,errW_none,errW_some] <;> rfl),by repeat (first | (with_reducible first | exact HB.out | apply below_alloc | apply pw_below_drewN | apply below_drew1 | refine below_set ?_ GE163.out) | exact HB.out)⟩
        ·rw [if_neg c11] at H;have c11b0 : (a0_7.toList == ([] : List UInt8)) = false := beq_eq_false_iff_ne.mpr c11;have c11b1 : (a0_7.toList != ([] : List UInt8)) = true := bne_iff_ne.mpr c11;obtain rfl := Option.some.inj H
         simp only [Option.some.injEq,Prod.mk.injEq] at H
         obtain ⟨rfl⟩ := H;have hcz13 := pk9 BK163.out
         go_wp2
         go_ret
         exact ⟨by first | rfl | (simp [errW_none,errW_some] <;> rfl) | (simp [*,errW_none,errW_some] <;> rfl),by repeat (first | (with_reducible first | exact HB.out | apply below_alloc | apply pw_below_drewN | apply below_drew1 | refine below_set ?_ GE163.out) | exact HB.out)⟩
      ·rw [if_neg c8] at H;have c8b0 : (a0_5 == 0) = false := beq_eq_false_iff_ne.mpr c8;have c8b1 : (a0_5 != 0) = true := bne_iff_ne.mpr c8;obtain rfl := Option.some.inj H
       simp only [Option.some.injEq,Prod.mk.injEq] at H
       obtain ⟨rfl⟩ := H;have hcz14 := pk9 BK163.out
       go_wp2
       go_ret
       exact ⟨by first | rfl | (simp [errW_none,errW_some] <;> rfl) | (simp [*,errW_none,errW_some] <;> rfl),by repeat (first | (with_reducible first | exact HB.out | apply below_alloc | apply pw_below_drewN | apply below_drew1 | refine below_set ?_ GE163.out) | exact HB.out)⟩
     ·rw [if_neg c7] at H;have c7b0 : (a0_4 == 0) = false := beq_eq_false_iff_ne.mpr c7;have c7b1 : (a0_4 != 0) = true := bne_iff_ne.mpr c7;obtain rfl := Option.some.inj H
      simp only [Option.some.injEq,Prod.mk.injEq] at H
      obtain ⟨rfl⟩ := H;have hcz15 := pk9 BK163.out
      go_wp2
      go_ret
      exact ⟨by first | rfl | (simp [errW_none,errW_some] <;> rfl) | (simp [*,errW_none,errW_some] <;> rfl),by repeat (first | (with_reducible first | exact HB.out | apply below_alloc | apply pw_below_drewN | apply below_drew1 | refine below_set ?_ GE163.out) | exact HB.out)⟩
    ·rw [if_neg c6] at H;have c6b0 : (a0_3 == 0) = false := beq_eq_false_iff_ne.mpr c6;have c6b1 : (a0_3 != 0) = true := bne_iff_ne.mpr c6;obtain rfl := Option.some.inj H
     simp only [Option.some.injEq,Prod.mk.injEq] at H
     obtain ⟨rfl⟩ := H;have hcz16 := pk9 BK163.out
     go_wp2
     go_ret
     exact ⟨by first | rfl | (simp [errW_none,errW_some] <;> rfl) | (simp [*,errW_none,errW_some] <;> rfl),by repeat (first | (with_reducible first | exact HB.out | apply below_alloc | apply pw_below_drewN | apply below_drew1 | refine below_set ?_ GE163.out) | exact HB.out)⟩
   ·rw [if_neg c5] at H;have c5b0 : (a0_2 == 0) = false := beq_eq_false_iff_ne.mpr c5;have c5b1 : (a0_2 != 0) = true := bne_iff_ne.mpr c5;obtain rfl := Option.some.inj H
    simp only [Option.some.injEq,Prod.mk.injEq] at H
    obtain ⟨rfl⟩ := H;have hcz17 := pk9 BK163.out
    go_wp2
    go_ret
    exact ⟨by first | rfl | (simp [errW_none,errW_some] <;> rfl) | (simp [*,errW_none,errW_some] <;> rfl),by repeat (first | (with_reducible first | exact HB.out | apply below_alloc | apply pw_below_drewN | apply below_drew1 | refine below_set ?_ GE163.out) | exact HB.out)⟩
  ·rw [if_neg c4] at H;have c4b0 : (a0_1 == 0) = false := beq_eq_false_iff_ne.mpr c4;have c4b1 : (a0_1 != 0) = true := bne_iff_ne.mpr c4;obtain rfl := Option.some.inj H
   simp only [Option.some.injEq,Prod.mk.injEq] at H
   obtain ⟨rfl⟩ := H;have hcz18 := pk9 BK163.out
   go_wp2
   go_ret
   exact ⟨by first | rfl | (simp [errW_none,errW_some] <;> rfl) | (simp [*,errW_none,errW_some] <;> rfl),by repeat (first | (with_reducible first | exact HB.out | apply below_alloc | apply pw_below_drewN | apply below_drew1 | refine below_set ?_ GE163.out) | exact HB.out)⟩
 ·rw [if_neg c3] at H;have c3b0 : (a0_0 == 0) = false := beq_eq_false_iff_ne.mpr c3;have c3b1 : (a0_0 != 0) = true := bne_iff_ne.mpr c3;obtain rfl := Option.some.inj H
  simp only [Option.some.injEq,Prod.mk.injEq] at H
  obtain ⟨rfl⟩ := H;have hcz19 := pk9 BK163.out
  go_wp2
  go_ret
  exact ⟨by first | rfl | (simp [errW_none,errW_some] <;> rfl) | (simp [*,errW_none,errW_some] <;> rfl),by repeat (first | (with_reducible first | exact HB.out | apply below_alloc | apply pw_below_drewN | apply below_drew1 | refine below_set ?_ GE163.out) | exact HB.out)⟩

-- NOT PRINTED: function 76 (strings_indexFunc)

-- NOT PRINTED: function 63 (strings_IndexFunc)

-- function 38 (NM.impl_nameOk): a contract of its own

end Go.Proofs.Ytpljcphiaajjaaa.XFnFsNew
