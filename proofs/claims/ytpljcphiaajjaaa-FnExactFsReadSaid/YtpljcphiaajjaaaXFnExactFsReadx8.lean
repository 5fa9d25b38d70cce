-- Written by the kit's printer at the call of wip/tools/xprint.sh (this session's knobs and contracts). Not trusted: Lean checks it.
import Derived.Test.YtpljcphiaajjaaaXFnExactFsReadx0
import Derived.Test.YtpljcphiaajjaaaXFnExactFsReadx6
import Derived.Test.YtpljcphiaajjaaaXFnExactFsReadx7
namespace Go.Proofs.Ytpljcphiaajjaaa.XFnExactFsRead
open Go.RowKit Go.Proofs.YtpljcphiaajjaaaW.PrintWords Go.Proofs.YtpljcphiaajjaaaW.PrintLast Go.Proofs.YtpljcphiaajjaaaW.PrintMore
attribute [local go_sem] max2_int min2_int max_two min_two max_three min_three max_four min_four   -- for this text's walks alone
set_option linter.unusedVariables false
set_option linter.unusedSimpArgs false

/-! ### spec_FsOk: function 16 -/
mutual
def spec_FsOk.l0 : Nat → List Int → Int → List (S34) → Option (Bool)
 | 0,_,_,_ => none
 | k + 1,x3,x4,x206000 => if x4 < 10 then (if 0 ≤ x4 then (if x4 < (x206000.length : Int) then ((spec_l7Inode.f k ((rd_T34 x206000 x4).f0) ((rd_T34 x206000 x4).f1) ((rd_T34 x206000 x4).f2) ((rd_T34 x206000 x4).f3) ((rd_T34 x206000 x4).f4) ((rd_T34 x206000 x4).f5) ((rd_T34 x206000 x4).f6) ((rd_T34 x206000 x4).f7) ((rd_T34 x206000 x4).f8)).bind fun t210 => (if t210 = true then (spec_FsOk.l1 k x3 x4 0 x206000) else (some false))) else (none)) else (none)) else (if 0 < (x206000.length : Int) then (if ((rd_T34 x206000 0).f0) = 2 then ((spec_l7Folders.f k x206000).bind fun bt219 => (spec_FsOk.l2 k x3 bt219.1 bt219.2 0 x206000)) else (some false)) else (none))
def spec_FsOk.l1 : Nat → List Int → Int → Int → List (S34) → Option (Bool)
 | 0,_,_,_,_ => none
 | k + 1,x3,x4,x5,x206000 => if 0 ≤ x4 then (if x4 < (x206000.length : Int) then (if x5 < (((rd_T34 x206000 x4).f8).length : Int) then (if 0 ≤ x5 then (if 0 ≤ ((rd_T47 ((rd_T34 x206000 x4).f8) x5).f1) then (if ((rd_T47 ((rd_T34 x206000 x4).f8) x5).f1) < (x3.length : Int) then (spec_FsOk.l1 k (x3.set (((rd_T47 ((rd_T34 x206000 x4).f8) x5).f1) : Int).toNat (wrap64 ((rd x3 ((rd_T47 ((rd_T34 x206000 x4).f8) x5).f1)) + 1))) x4 (wrap64 (x5 + 1)) x206000) else (none)) else (none)) else (none)) else (spec_FsOk.l0 k x3 (wrap64 (x4 + 1)) x206000)) else (none)) else (none)
def spec_FsOk.l2 : Nat → List Int → List Bool → Bool → Int → List (S34) → Option (Bool)
 | 0,_,_,_,_,_ => none
 | k + 1,x3,x6,x7,x8,x206000 => if x8 < 10 then (if x7 = true then (if 0 ≤ x8 then (if x8 < (x206000.length : Int) then (if x8 < (x3.length : Int) then (if (rd x3 x8) > 0 then (if ((rd_T34 x206000 x8).f0) = 0 then (spec_FsOk.j3 k x3 x6 x7 x8 true x206000) else (if ((rd_T34 x206000 x8).f4) = (rd x3 x8) then (if ((rd_T34 x206000 x8).f0) = 2 then (if x8 < (x6.length : Int) then (if rdOf false x6 x8 = true then (spec_FsOk.j3 k x3 x6 x7 x8 false x206000) else (spec_FsOk.j3 k x3 x6 x7 x8 true x206000)) else (none)) else (if ((rd_T34 x206000 x8).f0) = 1 then (if ((rd_T34 x206000 x8).f4) = 0 then (spec_FsOk.j3 k x3 x6 x7 x8 (((rd_T34 x206000 x8).f5) == 0) x206000) else (spec_FsOk.j3 k x3 x6 x7 x8 false x206000)) else (spec_FsOk.j3 k x3 x6 x7 x8 false x206000))) else (spec_FsOk.j3 k x3 x6 x7 x8 true x206000))) else (if ((rd_T34 x206000 x8).f0) = 0 then (spec_FsOk.j3 k x3 x6 x7 x8 false x206000) else (if ((rd_T34 x206000 x8).f4) = (rd x3 x8) then (if ((rd_T34 x206000 x8).f0) = 2 then (if x8 < (x6.length : Int) then (if rdOf false x6 x8 = true then (spec_FsOk.j3 k x3 x6 x7 x8 false x206000) else (spec_FsOk.j3 k x3 x6 x7 x8 true x206000)) else (none)) else (if ((rd_T34 x206000 x8).f0) = 1 then (if ((rd_T34 x206000 x8).f4) = 0 then (spec_FsOk.j3 k x3 x6 x7 x8 (((rd_T34 x206000 x8).f5) == 0) x206000) else (spec_FsOk.j3 k x3 x6 x7 x8 false x206000)) else (spec_FsOk.j3 k x3 x6 x7 x8 false x206000))) else (spec_FsOk.j3 k x3 x6 x7 x8 true x206000)))) else (none)) else (none)) else (none)) else (some x7)) else (some x7)
def spec_FsOk.j3 : Nat → List Int → List Bool → Bool → Int → Bool → List (S34) → Option (Bool)
 | 0,_,_,_,_,_,_ => none
 | k + 1,x3,x6,x7,x8,x136,x206000 => if x136 = true then (some false) else (spec_FsOk.l2 k x3 x6 x7 (wrap64 (x8 + 1)) x206000)
end
def spec_FsOk.f (k : Nat) (l0_0 : List (S34)) : Option (Bool) := if (l0_0.length : Int) = 10 then (if 10 ≤ 35184372088832 then (spec_FsOk.l0 k (List.replicate 10 0) 0 l0_0) else (none)) else (some false)
theorem spec_FsOk.mono_l : ∀ k,(∀ y0 y1 y2,LeO (spec_FsOk.l0 k y0 y1 y2) (spec_FsOk.l0 (k + 1) y0 y1 y2)) ∧ (∀ y0 y1 y2 y3,LeO (spec_FsOk.l1 k y0 y1 y2 y3) (spec_FsOk.l1 (k + 1) y0 y1 y2 y3)) ∧ (∀ y0 y1 y2 y3 y4,LeO (spec_FsOk.l2 k y0 y1 y2 y3 y4) (spec_FsOk.l2 (k + 1) y0 y1 y2 y3 y4)) ∧ (∀ y0 y1 y2 y3 y4 y5,LeO (spec_FsOk.j3 k y0 y1 y2 y3 y4 y5) (spec_FsOk.j3 (k + 1) y0 y1 y2 y3 y4 y5))
 | 0 => ⟨fun _ _ _ r h => by simp [spec_FsOk.l0] at h,fun _ _ _ _ r h => by simp [spec_FsOk.l1] at h,fun _ _ _ _ _ r h => by simp [spec_FsOk.l2] at h,fun _ _ _ _ _ _ r h => by simp [spec_FsOk.j3] at h⟩
 | k + 1 => by
  obtain ⟨ih0,ih1,ih2,ih3⟩ := spec_FsOk.mono_l k
  refine ⟨?_,?_,?_,?_⟩
  ·intro y0 y1 y2
   unfold spec_FsOk.l0
   repeat' first
   | (with_reducible exact ih0 _ _ _)
   | (with_reducible exact ih1 _ _ _ _)
   | (with_reducible exact ih2 _ _ _ _ _)
   | (with_reducible exact ih3 _ _ _ _ _ _)
   | (with_reducible exact spec_l7Folders.mono _ _)
   | (with_reducible exact spec_l7Inode.mono _ _ _ _ _ _ _ _ _ _)
   | (with_reducible exact LeO.refl _)
   | (with_reducible exact LeO.none _)
   | (with_reducible refine LeO.ite ?_ ?_)
   | (with_reducible refine LeO.bind ?_ (fun _ => ?_))
   | exact ih0 _ _ _
   | exact ih1 _ _ _ _
   | exact ih2 _ _ _ _ _
   | exact ih3 _ _ _ _ _ _
   | exact spec_l7Folders.mono _ _
   | exact spec_l7Inode.mono _ _ _ _ _ _ _ _ _ _
   | exact LeO.none _
   | refine LeO.ite ?_ ?_
   | refine LeO.bind ?_ (fun _ => ?_)
  ·intro y0 y1 y2 y3
   unfold spec_FsOk.l1
   repeat' first
   | (with_reducible exact ih0 _ _ _)
   | (with_reducible exact ih1 _ _ _ _)
   | (with_reducible exact ih2 _ _ _ _ _)
   | (with_reducible exact ih3 _ _ _ _ _ _)
   | (with_reducible exact spec_l7Folders.mono _ _)
   | (with_reducible exact spec_l7Inode.mono _ _ _ _ _ _ _ _ _ _)
   | (with_reducible exact LeO.refl _)
   | (with_reducible exact LeO.none _)
   | (with_reducible refine LeO.ite ?_ ?_)
   | (with_reducible refine LeO.bind ?_ (fun _ => ?_))
   | exact ih0 _ _ _
   | exact ih1 _ _ _ _
   | exact ih2 _ _ _ _ _
   | exact ih3 _ _ _ _ _ _
   | exact spec_l7Folders.mono _ _
   | exact spec_l7Inode.mono _ _ _ _ _ _ _ _ _ _
   | exact LeO.none _
   | refine LeO.ite ?_ ?_
   | refine LeO.bind ?_ (fun _ => ?_)
  ·intro y0 y1 y2 y3 y4
   unfold spec_FsOk.l2
   repeat' first
   | (with_reducible exact ih0 _ _ _)
   | (with_reducible exact ih1 _ _ _ _)
   | (with_reducible exact ih2 _ _ _ _ _)
   | (with_reducible exact ih3 _ _ _ _ _ _)
   | (with_reducible exact spec_l7Folders.mono _ _)
   | (with_reducible exact spec_l7Inode.mono _ _ _ _ _ _ _ _ _ _)
   | (with_reducible exact LeO.refl _)
   | (with_reducible exact LeO.none _)
   | (with_reducible refine LeO.ite ?_ ?_)
   | (with_reducible refine LeO.bind ?_ (fun _ => ?_))
   | exact ih0 _ _ _
   | exact ih1 _ _ _ _
   | exact ih2 _ _ _ _ _
   | exact ih3 _ _ _ _ _ _
   | exact spec_l7Folders.mono _ _
   | exact spec_l7Inode.mono _ _ _ _ _ _ _ _ _ _
   | exact LeO.none _
   | refine LeO.ite ?_ ?_
   | refine LeO.bind ?_ (fun _ => ?_)
  ·intro y0 y1 y2 y3 y4 y5
   unfold spec_FsOk.j3
   repeat' first
   | (with_reducible exact ih0 _ _ _)
   | (with_reducible exact ih1 _ _ _ _)
   | (with_reducible exact ih2 _ _ _ _ _)
   | (with_reducible exact ih3 _ _ _ _ _ _)
   | (with_reducible exact spec_l7Folders.mono _ _)
   | (with_reducible exact spec_l7Inode.mono _ _ _ _ _ _ _ _ _ _)
   | (with_reducible exact LeO.refl _)
   | (with_reducible exact LeO.none _)
   | (with_reducible refine LeO.ite ?_ ?_)
   | (with_reducible refine LeO.bind ?_ (fun _ => ?_))
   | exact ih0 _ _ _
   | exact ih1 _ _ _ _
   | exact ih2 _ _ _ _ _
   | exact ih3 _ _ _ _ _ _
   | exact spec_l7Folders.mono _ _
   | exact spec_l7Inode.mono _ _ _ _ _ _ _ _ _ _
   | exact LeO.none _
   | refine LeO.ite ?_ ?_
   | refine LeO.bind ?_ (fun _ => ?_)
theorem spec_FsOk.mono : ∀ a0 k,LeO (spec_FsOk.f k a0) (spec_FsOk.f (k + 1) a0) := by
 intro a0 k
 obtain ⟨ih0,ih1,ih2,ih3⟩ := spec_FsOk.mono_l k
 unfold spec_FsOk.f
 repeat' first
   | (with_reducible exact ih0 _ _ _)
   | (with_reducible exact ih1 _ _ _ _)
   | (with_reducible exact ih2 _ _ _ _ _)
   | (with_reducible exact ih3 _ _ _ _ _ _)
   | (with_reducible exact spec_l7Folders.mono _ _)
   | (with_reducible exact spec_l7Inode.mono _ _ _ _ _ _ _ _ _ _)
   | (with_reducible exact LeO.refl _)
   | (with_reducible exact LeO.none _)
   | (with_reducible refine LeO.ite ?_ ?_)
   | (with_reducible refine LeO.bind ?_ (fun _ => ?_))
   | exact ih0 _ _ _
   | exact ih1 _ _ _ _
   | exact ih2 _ _ _ _ _
   | exact ih3 _ _ _ _ _ _
   | exact spec_l7Folders.mono _ _
   | exact spec_l7Inode.mono _ _ _ _ _ _ _ _ _ _
   | exact LeO.none _
   | refine LeO.ite ?_ ?_
   | refine LeO.bind ?_ (fun _ => ?_)
def spec_FsOk.T12 : Bool × List (List Nat × List Nat) := (true,[([],[]),([],[]),([1],[1]),([],[]),([2,3],[2,3]),([4],[4]),([5],[5]),([],[]),([6,7],[6,7]),([8],[8]),([9],[9]),([],[]),([],[]),([12],[12]),([],[]),([13,14],[13,14]),([15],[15]),([16],[16]),([],[]),([17,18],[17,18]),([19],[19]),([20],[20]),([11,21],[11,21]),([22],[22]),([23],[23]),([0,10,0,1,2,3,4,5,6,7,8,9,10,11,12,13,14,15,16,17,18,19,20,21,22,23,24],[0,10]),([25,24,0,1,2,3,4,5,6,7,8,9,10,11,12,13,14,15,16,17,18,19,20,21,22,23,24],[24,25])])
def spec_FsOk.B12 : List Nat := [0,0,2,0,14,30,62,0,254,510,1022,0,0,4096,0,28672,61440,126976,0,520192,1044480,2093056,4192256,8386560,16775168,33554431,67108863]
theorem spec_FsOk.tab12 : rtab .any (opsOf Try.f16 12) = spec_FsOk.T12 := by kernel_rfl
theorem spec_FsOk.bits12 : waitsOk spec_FsOk.T12.2 spec_FsOk.B12 = true := by kernel_rfl
set_option maxHeartbeats 8000000 in
set_option maxRecDepth 100000 in
theorem spec_FsOk.calls (k : Nat) (A0_0 : Option Addr) (c0_0 : Nat) (l0_0 : List (S34)) (r : Bool) (w : World) (hr0_0 : Kd.C k34 w A0_0 l0_0.length l0_0) (hc0_0 : l0_0.length ≤ c0_0) (h : spec_FsOk.f k l0_0 = some r) :
  Calls Try.prog 16 #[.agg #[.slice A0_0 l0_0.length c0_0]] w fun e w' => e = .returned (.bool r) ∧ Below w.heap.size w w' := by
 have hu27 := Try.underlying27;have hu34 := Try.underlying34;have HR0_0 := Aside0.mk hr0_0;have HC0_0 := Aside0.mk hc0_0;clear hr0_0 hc0_0;have HB := Aside0.mk (Below.refl w.heap.size w);have H : (if (l0_0.length : Int) = 10 then (if 10 ≤ 35184372088832 then (spec_FsOk.l0 k (List.replicate 10 0) 0 l0_0) else (none)) else (some false)) = some r := h;clear h;by_cases c2 : (l0_0.length : Int) = 10
 ·rw [if_pos c2] at H;have c2b0 : ((l0_0.length : Int) == 10) = true := beq_iff_eq.mpr c2;have c2b1 : ((l0_0.length : Int) != 10) = false := bne_eq_false_iff_eq.mpr c2;have c2b2 : ((l0_0.length : Int) == 1) = false := beq_eq_false_iff_ne.mpr (by omega);have c2b3 : ((l0_0.length : Int) != 1) = true := bne_iff_ne.mpr (by omega);have c2b4 : ((l0_0.length : Int) == 2) = false := beq_eq_false_iff_ne.mpr (by omega);have c2b5 : ((l0_0.length : Int) != 2) = true := bne_iff_ne.mpr (by omega);clear c2;by_cases c3 : 10 ≤ 35184372088832
  ·rw [if_pos c3] at H;have c3b0 := eq_true c3;have c3b1 : decide (10 ≤ 35184372088832) = true := decide_eq_true c3;clear c3;obtain ⟨y206,hy206⟩ : ∃ y_ : List Int,y_ = (List.replicate 10 0) := ⟨_,rfl⟩;(replace H : (spec_FsOk.l0 k y206 0 l0_0) = some r := by first | (rw [hy206]; with_reducible exact H) | (have H2_ := (Option.bind_some _ _).symm.trans H; rw [hy206]; with_reducible exact H2_) | (have H2_ := (Option.bind_some _ _).symm.trans H; with_reducible exact H2_) | with_reducible exact H | (rw [hy206]; exact H) | exact H);have Ny206 := Aside0.mk hy206;clear hy206;have H' := Aside0.mk H;clear H
   go_enter Try.func16,Try.ntmps16
   go_wp2_with (first | ((with_reducible refine gate_dst (N := 1) rfl ?_); refine box_event ?hg (N := 1) ?hd (cs := #[.slice A0_0 l0_0.length c0_0]) (t := 27) ?hr ?_; (case hd => rfl); (case hg => rfl); (case hr => first | (go_simp; done) | (go_simp; rfl)); intro gb205 hg w4 hbox hb; have n0_ := Aside0.mk (below_step (by repeat (first | (with_reducible first | exact HB.out | apply yA | apply yN | apply yD) | exact HB.out)) hb); have n1_ := Aside0.mk (hbox); have n2_ := Aside0.mk ((by rw [hg]; exact (below_size (by repeat (first | (with_reducible first | exact HB.out | apply yA | apply yN | apply yD) | exact HB.out))) : w.heap.size ≤ gb205)); have n3_ := Aside0.mk ((by rw [hg]; exact (below_size (by repeat (first | (with_reducible first | exact HB.out | apply yA | apply yN | apply yD) | exact HB.out))) : w.heap.size ≤ gb205)); clear HB; have HB := n0_; have BK205 := n1_; have GW205 := n2_; have GE205 := n3_; clear n0_ n1_ n2_ n3_; clear hb hbox hg; have hcz5 := pk1 BK205.out) | ((with_reducible refine gate_dst (N := 14) rfl ?_); refine Kd.R_make (Kd.int .i64) _ 3 rfl (N := 14) rfl 50 _ _ rfl 10 rfl rfl Try.underlying50 (.int .i64 0) 8 info3 rfl (by decide) (by omega) 0 (ok := fun _ => True) (okp := fun _ => True) rfl (fun _ hk => hk) trivial (by omega) (by omega) (Below.refl _ _) (Nat.le_refl _) ?_; intro v207 w6 ho7 hb hg_ hnew_; clear hg_ hnew_; (first | rw [← Ny206.out] at ho7 | (simp only [Int.reduceToNat] at ho7; rw [← Ny206.out] at ho7)); have n0_ := Aside0.mk (Kd.R_lower ho7 (below_size (by repeat (first | (with_reducible first | exact HB.out | apply yA | apply yN | apply yD | refine yS ?_ GE205.out) | exact HB.out)))); have n1_ := Aside0.mk (blk_below (g := gb205) (o := .cells #[.slice A0_0 l0_0.length c0_0] 27 (0,0)) (by (with_reducible repeat (first | refine zN ?_ _ | refine zD ?_ | refine zA ?_ _)); exact BK205.out) hb); have n2_ := Aside0.mk (below_step (by repeat (first | (with_reducible first | exact HB.out | apply yA | apply yN | apply yD | refine yS ?_ GE205.out) | exact HB.out)) hb); clear BK205; clear HB; have HO208 := n0_; have BK205 := n1_; have HB := n2_; clear n0_ n1_ n2_; clear hb ho7))
   go_loopg [4] k (fun kq v4 w' => ∃ (x3_1 : List Int) (x4_1 : Int),v4 = .int .i64 x4_1 ∧ Aside0 (spec_FsOk.l0 kq x3_1 x4_1 l0_0 = some r) ∧ Aside0 (kq ≤ k) ∧ Aside0 (Kd.R (Kd.int .i64) 3 w' w.heap.size (fun _ => True) v207 x3_1) ∧ Aside0 (w'.heap[gb205]? = some (.cells #[(.slice A0_0 l0_0.length c0_0)] 27 (0,0))) ∧ Aside0 (Below w.heap.size w w'))
   case atStart => exact ⟨(y206),(0),(by first | rfl | (simp; done) | (simp [*]; done)),H',⟨Nat.le_refl _⟩,⟨by (with_reducible repeat (first | apply Kd.R_alloc | apply Kd.R_drewN | apply Kd.R_drew)); exact HO208.out⟩,⟨by (with_reducible repeat (first | refine zN ?_ _ | refine zD ?_ | refine zA ?_ _)); first | exact BK205.out | (simp only [*]; exact BK205.out)⟩,⟨by repeat (first | (with_reducible first | exact HB.out | apply yA | apply yN | apply yD | refine yS ?_ GE205.out) | exact HB.out)⟩⟩
   case round =>
    clear H';(try clear c1);(try clear c2);(try clear c2b0);(try clear c2b1);(try clear c2b2);(try clear p2);(try clear c3);(try clear c3b0);(try clear c3b1);(try clear hcz5);obtain ⟨x3_1,x4_1,rfl,HA,HK1,HO_3,BK205,HB⟩ := hrel
    cases gk with
    | zero => exact absurd HA.out (by simp [spec_FsOk.l0])
    | succ k1 =>
     have H := HA.out;clear HA
     simp only [spec_FsOk.l0] at H
     by_cases c8 : x4_1 < 10
     ·rw [if_pos c8] at H;have c8b0 : decide (x4_1 < 10) = true := decide_eq_true c8;clear c8;by_cases c9 : 0 ≤ x4_1
      ·rw [if_pos c9] at H;have c9b0 : decide (0 ≤ x4_1) = true := decide_eq_true c9;clear c9;by_cases c10 : x4_1 < (l0_0.length : Int)
       ·rw [if_pos c10] at H;have c10b0 : decide (x4_1 < (l0_0.length : Int)) = true := decide_eq_true c10;clear c10;replace H := Option.bind_eq_some_iff.mp H;obtain ⟨t210,A110,H⟩ := H;replace H : (if t210 = true then (spec_FsOk.l1 k1 x3_1 x4_1 0 l0_0) else (some false)) = some r := H;have A11 := Aside0.mk A110;clear A110;by_cases c12 : t210 = true
        ·subst c12;(have H1 : (spec_FsOk.l1 k1 x3_1 x4_1 0 l0_0) = some r := by rw [if_pos rfl] at H; exact H);clear H;have H := H1;clear H1;have H' := Aside0.mk H;clear H;have hcz13 := pk1 BK205.out;have p209 : 0 ≤ (x4_1 : Int) := od_ (by first | (with_reducible assumption) | assumption);have q209 : x4_1 < (l0_0.length : Int) := od_ (by first | (with_reducible assumption) | assumption);obtain ⟨ad209,A209_8,c209_8,e209,hx209_0,hx209_1,hx209_2,hx209_3,hx209_4,hx209_5,hx209_6,hx209_7,hx209_8,hl209_8,hi209_8⟩ := at_T34 HR0_0.out x4_1 p209 q209
         cases e209
         replace hx209_0 := bc_ HB hx209_0;replace hx209_1 := bc_ HB hx209_1;replace hx209_2 := bc_ HB hx209_2;replace hx209_3 := bc_ HB hx209_3;replace hx209_4 := bc_ HB hx209_4;replace hx209_5 := bc_ HB hx209_5;replace hx209_6 := bc_ HB hx209_6;replace hx209_7 := bc_ HB hx209_7;replace hx209_8 := bc_ HB hx209_8;have HR209_8 := Aside0.mk hi209_8;have HC209_8 := Aside0.mk hl209_8;clear hi209_8 hl209_8;replace p209 := eq_true p209;replace q209 := eq_true q209
         go_wp2_with (first | ((with_reducible refine gate_callee (f := 40) rfl ?_); refine goesL_ (some 24) rfl rfl Try.func40 (by kernel_rfl) rfl #[.agg #[.int .i64 ((rd_T34 l0_0 x4_1).f0),.int .i64 ((rd_T34 l0_0 x4_1).f1),.int .i64 ((rd_T34 l0_0 x4_1).f2),.int .i64 ((rd_T34 l0_0 x4_1).f3),.int .i64 ((rd_T34 l0_0 x4_1).f4),.int .i64 ((rd_T34 l0_0 x4_1).f5),.bool ((rd_T34 l0_0 x4_1).f6),.string ((rd_T34 l0_0 x4_1).f7),.slice A209_8 ((rd_T34 l0_0 x4_1).f8).length c209_8]] rfl (by (try simp only [List.map_toArray,List.map_cons,List.map_nil]); first | done | rfl | (simp only [List.length_drop,List.length_take]; rfl)) ?_; (with_reducible refine (spec_l7Inode.calls k1 ((rd_T34 l0_0 x4_1).f0) ((rd_T34 l0_0 x4_1).f1) ((rd_T34 l0_0 x4_1).f2) ((rd_T34 l0_0 x4_1).f3) ((rd_T34 l0_0 x4_1).f4) ((rd_T34 l0_0 x4_1).f5) ((rd_T34 l0_0 x4_1).f6) ((rd_T34 l0_0 x4_1).f7) _ _ ((rd_T34 l0_0 x4_1).f8) true _ ?side1 ?side2 A11.out).mono ?_); (case side1 => repeat (first | exact (Kd.C_below HR209_8.out HB.out) | (with_reducible refine Kd.C_alloc ?_ _) | (with_reducible refine Kd.C_drewN ?_ _) | (with_reducible refine Kd.C_drew ?_))); (case side2 => exact HC209_8.out); rintro e w14 ⟨rfl,hb⟩; refine ⟨_,rfl,?_⟩; have n0_ := Aside0.mk (Kd.R_below (by (with_reducible repeat (first | apply Kd.R_alloc | apply Kd.R_drewN | apply Kd.R_drew)); exact HO_3.out) hb); have n1_ := Aside0.mk (blk_below (g := gb205) (o := .cells #[.slice (some ad209) l0_0.length c0_0] 27 (0,0)) (by (with_reducible repeat (first | refine zN ?_ _ | refine zD ?_ | refine zA ?_ _)); exact BK205.out) hb); have n2_ := Aside0.mk (below_step (by repeat (first | (with_reducible first | exact HB.out | apply yA | apply yN | apply yD | refine yS ?_ GE205.out) | exact HB.out)) hb); clear HO_3; clear BK205; clear HB; have HO_3 := n0_; have BK205 := n1_; have HB := n2_; clear n0_ n1_ n2_; (try clear hb); (try clear hb2); (try clear hk); (try clear hi)))
         go_loopg [5] k1 (fun kq v5 w' => ∃ (x3_2 : List Int) (x5_2 : Int),v5 = .int .i64 x5_2 ∧ Aside0 (spec_FsOk.l1 kq x3_2 x4_1 x5_2 l0_0 = some r) ∧ Aside0 (kq ≤ k1) ∧ Aside0 (Kd.R (Kd.int .i64) 3 w' w.heap.size (fun _ => True) v207 x3_2) ∧ Aside0 (w'.heap[gb205]? = some (.cells #[(.slice (some ad209) l0_0.length c0_0)] 27 (0,0))) ∧ Aside0 (Below w.heap.size w w'))
         case atStart => exact ⟨(x3_1),(0),(by first | rfl | (simp; done) | (simp [*]; done)),H',⟨Nat.le_refl _⟩,⟨by (with_reducible repeat (first | apply Kd.R_alloc | apply Kd.R_drewN | apply Kd.R_drew)); exact HO_3.out⟩,⟨by (with_reducible repeat (first | refine zN ?_ _ | refine zD ?_ | refine zA ?_ _)); first | exact BK205.out | (simp only [*]; exact BK205.out)⟩,⟨by repeat (first | (with_reducible first | exact HB.out | apply yA | apply yN | apply yD | refine yS ?_ GE205.out) | exact HB.out)⟩⟩
         case round =>
          clear H';(try clear c1);(try clear c2);(try clear c2b0);(try clear c2b1);(try clear c2b2);(try clear p2);(try clear q2);(try clear hx2);(try clear c3);(try clear c3b0);(try clear c3b1);(try clear c4);(try clear c8);(try clear c8b0);(try clear c9);(try clear c9b0);(try clear c10);(try clear c10b0);(try clear c12);(try clear hcz13);(try clear hcz5);(try clear hx209_0);(try clear hx209_1);(try clear hx209_2);(try clear hx209_3);(try clear hx209_4);(try clear hx209_5);(try clear hx209_6);(try clear hx209_7);(try clear hx209_8);(try clear p2);(try clear p209);(try clear q209);obtain ⟨x3_2,x5_2,rfl,HA,HK2,HO_3,BK205,HB⟩ := hrel
          cases gk with
          | zero => exact absurd HA.out (by simp [spec_FsOk.l1])
          | succ k2 =>
           have H := HA.out;clear HA
           simp only [spec_FsOk.l1] at H
           by_cases c15 : 0 ≤ x4_1
           ·rw [if_pos c15] at H;have c15b0 : decide (0 ≤ x4_1) = true := decide_eq_true c15;clear c15;by_cases c16 : x4_1 < (l0_0.length : Int)
            ·rw [if_pos c16] at H;have c16b0 : decide (x4_1 < (l0_0.length : Int)) = true := decide_eq_true c16;clear c16;by_cases c17 : x5_2 < (((rd_T34 l0_0 x4_1).f8).length : Int)
             ·rw [if_pos c17] at H;have c17b0 : decide (x5_2 < (((rd_T34 l0_0 x4_1).f8).length : Int)) = true := decide_eq_true c17;clear c17;by_cases c18 : 0 ≤ x5_2
              ·rw [if_pos c18] at H;have c18b0 : decide (0 ≤ x5_2) = true := decide_eq_true c18;clear c18;by_cases c19 : 0 ≤ ((rd_T47 ((rd_T34 l0_0 x4_1).f8) x5_2).f1)
               ·rw [if_pos c19] at H;have c19b0 : decide (0 ≤ ((rd_T47 ((rd_T34 l0_0 x4_1).f8) x5_2).f1)) = true := decide_eq_true c19;clear c19;by_cases c20 : ((rd_T47 ((rd_T34 l0_0 x4_1).f8) x5_2).f1) < (x3_2.length : Int)
                ·rw [if_pos c20] at H;have c20b0 : decide (((rd_T47 ((rd_T34 l0_0 x4_1).f8) x5_2).f1) < (x3_2.length : Int)) = true := decide_eq_true c20;clear c20;obtain ⟨y217,hy217⟩ : ∃ y_ : List Int,y_ = (x3_2.set (((rd_T47 ((rd_T34 l0_0 x4_1).f8) x5_2).f1) : Int).toNat (wrap64 ((rd x3_2 ((rd_T47 ((rd_T34 l0_0 x4_1).f8) x5_2).f1)) + 1))) := ⟨_,rfl⟩;(replace H : (spec_FsOk.l1 k2 y217 x4_1 (wrap64 (x5_2 + 1)) l0_0) = some r := by first | (rw [hy217]; with_reducible exact H) | (have H2_ := (Option.bind_some _ _).symm.trans H; rw [hy217]; with_reducible exact H2_) | (have H2_ := (Option.bind_some _ _).symm.trans H; with_reducible exact H2_) | with_reducible exact H | (rw [hy217]; exact H) | exact H);have Ny217 := Aside0.mk hy217;clear hy217;have H' := Aside0.mk H;clear H;have hcz22 := pk1 BK205.out;have p211 : 0 ≤ (x4_1 : Int) := od_ (by first | (with_reducible assumption) | assumption);have q211 : x4_1 < (l0_0.length : Int) := od_ (by first | (with_reducible assumption) | assumption);obtain ⟨ad211,A211_8,c211_8,e211,hx211_0,hx211_1,hx211_2,hx211_3,hx211_4,hx211_5,hx211_6,hx211_7,hx211_8,hl211_8,hi211_8⟩ := at_T34 HR0_0.out x4_1 p211 q211;obtain rfl : ad209 = ad211 := (by injection e211);replace hx211_0 := bc_ HB hx211_0;replace hx211_1 := bc_ HB hx211_1;replace hx211_2 := bc_ HB hx211_2;replace hx211_3 := bc_ HB hx211_3
                 replace hx211_4 := bc_ HB hx211_4;replace hx211_5 := bc_ HB hx211_5;replace hx211_6 := bc_ HB hx211_6;replace hx211_7 := bc_ HB hx211_7;replace hx211_8 := bc_ HB hx211_8;have HR211_8 := Aside0.mk hi211_8;have HC211_8 := Aside0.mk hl211_8;clear hi211_8 hl211_8;replace p211 := eq_true p211;replace q211 := eq_true q211
                 try go_wp2
                 have n0_ := Aside0.mk (Kd.R_drew HO_3.out);have n1_ := Aside0.mk (zD BK205.out);have n2_ := Aside0.mk (yD HB.out);clear HO_3;clear BK205;clear HB;have HO_3 := n0_;have BK205 := n1_;have HB := n2_;clear n0_ n1_ n2_;have p212 : 0 ≤ (x4_1 : Int) := od_ (by first | (with_reducible assumption) | assumption);have q212 : x4_1 < (l0_0.length : Int) := od_ (by first | (with_reducible assumption) | assumption);obtain ⟨ad212,A212_8,c212_8,e212,hx212_0,hx212_1,hx212_2,hx212_3,hx212_4,hx212_5,hx212_6,hx212_7,hx212_8,hl212_8,hi212_8⟩ := at_T34 HR0_0.out x4_1 p212 q212;have hw212_8 := hx212_8;have hw212_7 := hx212_7;have hw212_6 := hx212_6;have hw212_5 := hx212_5;have hw212_4 := hx212_4;have hw212_3 := hx212_3;have hw212_2 := hx212_2;have hw212_1 := hx212_1;have hw212_0 := hx212_0;obtain rfl : ad209 = ad212 := (by injection e212);replace hx212_0 := bc_ HB hx212_0;replace hx212_1 := bc_ HB hx212_1;replace hx212_2 := bc_ HB hx212_2;replace hx212_3 := bc_ HB hx212_3;replace hx212_4 := bc_ HB hx212_4;replace hx212_5 := bc_ HB hx212_5;replace hx212_6 := bc_ HB hx212_6;replace hx212_7 := bc_ HB hx212_7
                 replace hx212_8 := bc_ HB hx212_8;have HR212_8 := Aside0.mk hi212_8;have HC212_8 := Aside0.mk hl212_8;clear hi212_8 hl212_8;replace p212 := eq_true p212;replace q212 := eq_true q212;have p213 : 0 ≤ (x5_2 : Int) := od_ (by first | (with_reducible assumption) | assumption);have q213 : x5_2 < (((rd_T34 l0_0 x4_1).f8).length : Int) := od_ (by first | (with_reducible assumption) | assumption);obtain ⟨ad213,e213,hx213_0,hx213_1⟩ := at_T47 HR212_8.out x5_2 p213 q213;have hw213_1 := hx213_1;have hw213_0 := hx213_0
                 cases e213
                 replace hx213_0 := bc_ HB hx213_0;replace hx213_1 := bc_ HB hx213_1;replace p213 := eq_true p213;replace q213 := eq_true q213;have p214 : 0 ≤ (x4_1 : Int) := od_ (by first | (with_reducible assumption) | assumption);have q214 : x4_1 < (l0_0.length : Int) := od_ (by first | (with_reducible assumption) | assumption);obtain ⟨ad214,A214_8,c214_8,e214,hx214_0,hx214_1,hx214_2,hx214_3,hx214_4,hx214_5,hx214_6,hx214_7,hx214_8,hl214_8,hi214_8⟩ := at_T34 HR0_0.out x4_1 p214 q214;have hw214_8 := hx214_8;have hw214_7 := hx214_7;have hw214_6 := hx214_6;have hw214_5 := hx214_5;have hw214_4 := hx214_4;have hw214_3 := hx214_3;have hw214_2 := hx214_2;have hw214_1 := hx214_1;have hw214_0 := hx214_0;obtain rfl : ad209 = ad214 := (by injection e214);replace hx214_0 := bc_ HB hx214_0;replace hx214_1 := bc_ HB hx214_1;replace hx214_2 := bc_ HB hx214_2;replace hx214_3 := bc_ HB hx214_3;replace hx214_4 := bc_ HB hx214_4;replace hx214_5 := bc_ HB hx214_5;replace hx214_6 := bc_ HB hx214_6;replace hx214_7 := bc_ HB hx214_7
                 replace hx214_8 := bc_ HB hx214_8;have HR214_8 := Aside0.mk hi214_8;have HC214_8 := Aside0.mk hl214_8;clear hi214_8 hl214_8;replace p214 := eq_true p214;replace q214 := eq_true q214;have ea_ := Option.some.inj (hx212_8.symm.trans hx214_8)
                 injection ea_ with ea_ en_ ec_
                 subst ea_;subst ec_;clear en_;have p215 : 0 ≤ (x5_2 : Int) := od_ (by first | (with_reducible assumption) | assumption);have q215 : x5_2 < (((rd_T34 l0_0 x4_1).f8).length : Int) := od_ (by first | (with_reducible assumption) | assumption);obtain ⟨ad215,e215,hx215_0,hx215_1⟩ := at_T47 HR214_8.out x5_2 p215 q215;have hw215_1 := hx215_1;have hw215_0 := hx215_0
                 cases e215
                 replace hx215_0 := bc_ HB hx215_0;replace hx215_1 := bc_ HB hx215_1;replace p215 := eq_true p215;replace q215 := eq_true q215;obtain ⟨Ao24,co24,eo24⟩ := Kd.R_slice HO_3.out;(first | subst eo24 | (injection eo24 with f1_ f2_ f3_; have f4_ := f1_.symm; have f5_ := f3_.symm; clear f1_ f2_ f3_; subst f4_; subst f5_));have p216 : 0 ≤ (((rd_T47 ((rd_T34 l0_0 x4_1).f8) x5_2).f1) : Int) := od_ (by first | (with_reducible assumption) | assumption);have q216 : ((rd_T47 ((rd_T34 l0_0 x4_1).f8) x5_2).f1) < (x3_2.length : Int) := od_ (by first | (with_reducible assumption) | assumption);obtain ⟨ad216,e216,hx216_0⟩ := Kd.at_int (Kd.R_reads' HO_3.out).2.2 ((rd_T47 ((rd_T34 l0_0 x4_1).f8) x5_2).f1) p216 q216
                 cases e216
                 replace p216 := eq_true p216;replace q216 := eq_true q216;have p21 : 0 ≤ (((rd_T47 ((rd_T34 l0_0 x4_1).f8) x5_2).f1) : Int) := od_ (by first | (with_reducible assumption) | assumption);have q21 : (((rd_T47 ((rd_T34 l0_0 x4_1).f8) x5_2).f1) : Int) < ((x3_2.length : Int) : Int) := od_ (by first | (with_reducible assumption) | assumption);obtain ⟨go21,co21,eo21,gb21,gl21,cl21,HG21⟩ := Kd.R_form HO_3.out (by omega);(first | cases eo21 | (injection eo21 with ea_ en_ ec_; (first | subst ea_ | (injection ea_ with ea_; subst ea_)); subst ec_; clear en_));have GB21 := Aside0.mk gb21;have GG21 := Aside0.mk HG21;clear gb21 gl21 HG21;(first | simp only [add_plain] at hx216_0 | skip);obtain ⟨hx21_0,hf21_0⟩ := Kd.R_celln 0 HO_3.out (((rd_T47 ((rd_T34 l0_0 x4_1).f8) x5_2).f1) : Int) p21 q21;replace p21 := eq_true p21;replace q21 := eq_true q21;have HP25 := Kd.R_putn HO_3.out (((rd_T47 ((rd_T34 l0_0 x4_1).f8) x5_2).f1) : Int) (wrap64 ((rd x3_2 ((rd_T47 ((rd_T34 l0_0 x4_1).f8) x5_2).f1)) + 1));rw [← Ny217.out] at HP25;have HQ25 := Aside0.mk HP25;clear HP25
                 refine start_ (n := 27) (S := fun w' => w'.cell? ⟨gb205,0,none⟩ = some (.slice (some ad209) l0_0.length c0_0) ∧ w'.cell? (ad209.add ((x4_1).toNat * 9)) = some (.int .i64 ((rd_T34 l0_0 x4_1).f0)) ∧ w'.cell? ⟨(ad209.add ((x4_1).toNat * 9)).block,(ad209.add ((x4_1).toNat * 9)).off + 1,none⟩ = some (.int .i64 ((rd_T34 l0_0 x4_1).f1)) ∧ w'.cell? ⟨(ad209.add ((x4_1).toNat * 9)).block,(ad209.add ((x4_1).toNat * 9)).off + 2,none⟩ = some (.int .i64 ((rd_T34 l0_0 x4_1).f2)) ∧ w'.cell? ⟨(ad209.add ((x4_1).toNat * 9)).block,(ad209.add ((x4_1).toNat * 9)).off + 3,none⟩ = some (.int .i64 ((rd_T34 l0_0 x4_1).f3)) ∧ w'.cell? ⟨(ad209.add ((x4_1).toNat * 9)).block,(ad209.add ((x4_1).toNat * 9)).off + 4,none⟩ = some (.int .i64 ((rd_T34 l0_0 x4_1).f4)) ∧ w'.cell? ⟨(ad209.add ((x4_1).toNat * 9)).block,(ad209.add ((x4_1).toNat * 9)).off + 5,none⟩ = some (.int .i64 ((rd_T34 l0_0 x4_1).f5)) ∧ w'.cell? ⟨(ad209.add ((x4_1).toNat * 9)).block,(ad209.add ((x4_1).toNat * 9)).off + 6,none⟩ = some (.bool ((rd_T34 l0_0 x4_1).f6)) ∧ w'.cell? ⟨(ad209.add ((x4_1).toNat * 9)).block,(ad209.add ((x4_1).toNat * 9)).off + 7,none⟩ = some (.string ((rd_T34 l0_0 x4_1).f7)) ∧ w'.cell? ⟨(ad209.add ((x4_1).toNat * 9)).block,(ad209.add ((x4_1).toNat * 9)).off + 8,none⟩ = some (.slice (some ad213) ((rd_T34 l0_0 x4_1).f8).length c212_8) ∧ w'.cell? (ad213.add ((x5_2).toNat * 2)) = some (.string ((rd_T47 ((rd_T34 l0_0 x4_1).f8) x5_2).f0)) ∧ w'.cell? ⟨(ad213.add ((x5_2).toNat * 2)).block,(ad213.add ((x5_2).toNat * 2)).off + 1,none⟩ = some (.int .i64 ((rd_T47 ((rd_T34 l0_0 x4_1).f8) x5_2).f1)) ∧ w'.cell? (ad209.add ((x4_1).toNat * 9)) = some (.int .i64 ((rd_T34 l0_0 x4_1).f0)) ∧ w'.cell? ⟨(ad209.add ((x4_1).toNat * 9)).block,(ad209.add ((x4_1).toNat * 9)).off + 1,none⟩ = some (.int .i64 ((rd_T34 l0_0 x4_1).f1)) ∧ w'.cell? ⟨(ad209.add ((x4_1).toNat * 9)).block,(ad209.add ((x4_1).toNat * 9)).off + 2,none⟩ = some (.int .i64 ((rd_T34 l0_0 x4_1).f2)) ∧ w'.cell? ⟨(ad209.add ((x4_1).toNat * 9)).block,(ad209.add ((x4_1).toNat * 9)).off + 3,none⟩ = some (.int .i64 ((rd_T34 l0_0 x4_1).f3)) ∧ w'.cell? ⟨(ad209.add ((x4_1).toNat * 9)).block,(ad209.add ((x4_1).toNat * 9)).off + 4,none⟩ = some (.int .i64 ((rd_T34 l0_0 x4_1).f4)) ∧ w'.cell? ⟨(ad209.add ((x4_1).toNat * 9)).block,(ad209.add ((x4_1).toNat * 9)).off + 5,none⟩ = some (.int .i64 ((rd_T34 l0_0 x4_1).f5)) ∧ w'.cell? ⟨(ad209.add ((x4_1).toNat * 9)).block,(ad209.add ((x4_1).toNat * 9)).off + 6,none⟩ = some (.bool ((rd_T34 l0_0 x4_1).f6)) ∧ w'.cell? ⟨(ad209.add ((x4_1).toNat * 9)).block,(ad209.add ((x4_1).toNat * 9)).off + 7,none⟩ = some (.string ((rd_T34 l0_0 x4_1).f7)) ∧ w'.cell? ⟨(ad209.add ((x4_1).toNat * 9)).block,(ad209.add ((x4_1).toNat * 9)).off + 8,none⟩ = some (.slice (some ad213) ((rd_T34 l0_0 x4_1).f8).length c212_8) ∧ w'.cell? (ad213.add ((x5_2).toNat * 2)) = some (.string ((rd_T47 ((rd_T34 l0_0 x4_1).f8) x5_2).f0)) ∧ w'.cell? ⟨(ad213.add ((x5_2).toNat * 2)).block,(ad213.add ((x5_2).toNat * 2)).off + 1,none⟩ = some (.int .i64 ((rd_T47 ((rd_T34 l0_0 x4_1).f8) x5_2).f1)) ∧ w'.cell? ⟨go21,(((rd_T47 ((rd_T34 l0_0 x4_1).f8) x5_2).f1)).toNat,none⟩ = some (.int .i64 (rd x3_2 ((rd_T47 ((rd_T34 l0_0 x4_1).f8) x5_2).f1)))) (ds := [26]) #[false,false,false,false,false,false,false,false,false,false,false,false,false,false,false,false,false,false,false,false,false,false,false,false,false,false,false] (by kernel_rfl) rfl rfl ⟨(blk_cell BK205.out 0).trans rfl,((HB.out.cell (World.block_lt_of_cell? w _ hw212_0)).trans hw212_0),((HB.out.cell (World.block_lt_of_cell? w _ hw212_1)).trans hw212_1),((HB.out.cell (World.block_lt_of_cell? w _ hw212_2)).trans hw212_2),((HB.out.cell (World.block_lt_of_cell? w _ hw212_3)).trans hw212_3),((HB.out.cell (World.block_lt_of_cell? w _ hw212_4)).trans hw212_4),((HB.out.cell (World.block_lt_of_cell? w _ hw212_5)).trans hw212_5),((HB.out.cell (World.block_lt_of_cell? w _ hw212_6)).trans hw212_6),((HB.out.cell (World.block_lt_of_cell? w _ hw212_7)).trans hw212_7),((HB.out.cell (World.block_lt_of_cell? w _ hw212_8)).trans hw212_8),((HB.out.cell (World.block_lt_of_cell? w _ hw213_0)).trans hw213_0),((HB.out.cell (World.block_lt_of_cell? w _ hw213_1)).trans hw213_1),((HB.out.cell (World.block_lt_of_cell? w _ hw214_0)).trans hw214_0),((HB.out.cell (World.block_lt_of_cell? w _ hw214_1)).trans hw214_1),((HB.out.cell (World.block_lt_of_cell? w _ hw214_2)).trans hw214_2),((HB.out.cell (World.block_lt_of_cell? w _ hw214_3)).trans hw214_3),((HB.out.cell (World.block_lt_of_cell? w _ hw214_4)).trans hw214_4),((HB.out.cell (World.block_lt_of_cell? w _ hw214_5)).trans hw214_5),((HB.out.cell (World.block_lt_of_cell? w _ hw214_6)).trans hw214_6),((HB.out.cell (World.block_lt_of_cell? w _ hw214_7)).trans hw214_7),((HB.out.cell (World.block_lt_of_cell? w _ hw214_8)).trans hw214_8),((HB.out.cell (World.block_lt_of_cell? w _ hw215_0)).trans hw215_0),((HB.out.cell (World.block_lt_of_cell? w _ hw215_1)).trans hw215_1),hx216_0⟩ (fun hHeld => ?_); refine with_tabW spec_FsOk.tab12 spec_FsOk.bits12 (fun HT_ HW_ => ?_)
                 generalize wr.drew = w23 at HO_3 BK205 HB GG21 HQ25 HR212_8 HR214_8 hf21_0 hx212_0 hx212_1 hx212_2 hx212_3 hx212_4 hx212_5 hx212_6 hx212_7 hx212_8 hx213_0 hx213_1 hx214_0 hx214_1 hx214_2 hx214_3 hx214_4 hx214_5 hx214_6 hx214_7 hx214_8 hx215_0 hx215_1 hx216_0 hx21_0 hHeld ⊢
                 refine pure_ (i := 0) (N := some 37) (v := ?_) (a' := ?_) #[true,false,false,false,false,false,false,false,false,false,false,false,false,false,false,false,false,false,false,false,false,false,false,false,false,false,false] rfl rfl (any_of HT_.out (by kernel_rfl)) (fun _ _ _ h => h) (Or.inl ⟨by rfl,?_⟩) ?_ ?_
                 rotate_left
                 ·intro w'
                  go_simp
                  with_reducible rfl
                 rotate_left
                 ·simp only [Act.put,List.setIfInBounds_toArray,List.set_cons_zero,List.set_cons_succ,i64_w,i32_w]
                  rfl
                 refine pure_ (i := 1) (N := some 38) (v := ?_) (a' := ?_) #[true,true,false,false,false,false,false,false,false,false,false,false,false,false,false,false,false,false,false,false,false,false,false,false,false,false,false] rfl rfl (any_of HT_.out (by kernel_rfl)) (fun _ _ _ h => h) (Or.inl ⟨by rfl,?_⟩) ?_ ?_
                 rotate_left
                 ·intro w'
                  go_simp
                  with_reducible rfl
                 rotate_left
                 ·simp only [Act.put,List.setIfInBounds_toArray,List.set_cons_zero,List.set_cons_succ,i64_w,i32_w]
                  rfl
                 refine pure_ (i := 3) (N := some 40) (v := ?_) (a' := ?_) #[true,true,false,true,false,false,false,false,false,false,false,false,false,false,false,false,false,false,false,false,false,false,false,false,false,false,false] rfl rfl (any_of HT_.out (by kernel_rfl)) (fun _ _ _ h => h) (Or.inl ⟨by rfl,?_⟩) ?_ ?_
                 rotate_left
                 ·intro w'
                  go_simp
                  with_reducible rfl
                 rotate_left
                 ·simp only [Act.put,List.setIfInBounds_toArray,List.set_cons_zero,List.set_cons_succ,i64_w,i32_w]
                  rfl
                 refine pure_ (i := 7) (N := some 44) (v := ?_) (a' := ?_) #[true,true,false,true,false,false,false,true,false,false,false,false,false,false,false,false,false,false,false,false,false,false,false,false,false,false,false] rfl rfl (any_of HT_.out (by kernel_rfl)) (fun _ _ _ h => h) (Or.inl ⟨by rfl,?_⟩) ?_ ?_
                 rotate_left
                 ·intro w'
                  go_simp
                  with_reducible rfl
                 rotate_left
                 ·simp only [Act.put,List.setIfInBounds_toArray,List.set_cons_zero,List.set_cons_succ,i64_w,i32_w]
                  rfl
                 refine pure_ (i := 11) (N := some 48) (v := ?_) (a' := ?_) #[true,true,false,true,false,false,false,true,false,false,false,true,false,false,false,false,false,false,false,false,false,false,false,false,false,false,false] rfl rfl (any_of HT_.out (by kernel_rfl)) (fun _ _ _ h => h) (Or.inl ⟨by rfl,?_⟩) ?_ ?_
                 rotate_left
                 ·intro w'
                  go_simp
                  with_reducible rfl
                 rotate_left
                 ·simp only [Act.put,List.setIfInBounds_toArray,List.set_cons_zero,List.set_cons_succ,i64_w,i32_w]
                  rfl
                 refine pure_ (i := 12) (N := some 49) (v := ?_) (a' := ?_) #[true,true,false,true,false,false,false,true,false,false,false,true,true,false,false,false,false,false,false,false,false,false,false,false,false,false,false] rfl rfl (any_of HT_.out (by kernel_rfl)) (fun _ _ _ h => h) (Or.inl ⟨by rfl,?_⟩) ?_ ?_
                 rotate_left
                 ·intro w'
                  go_simp
                  with_reducible rfl
                 rotate_left
                 ·simp only [Act.put,List.setIfInBounds_toArray,List.set_cons_zero,List.set_cons_succ,i64_w,i32_w]
                  rfl
                 refine pure_ (i := 14) (N := some 51) (v := ?_) (a' := ?_) #[true,true,false,true,false,false,false,true,false,false,false,true,true,false,true,false,false,false,false,false,false,false,false,false,false,false,false] rfl rfl (any_of HT_.out (by kernel_rfl)) (fun _ _ _ h => h) (Or.inl ⟨by rfl,?_⟩) ?_ ?_
                 rotate_left
                 ·intro w'
                  go_simp
                  with_reducible rfl
                 rotate_left
                 ·simp only [Act.put,List.setIfInBounds_toArray,List.set_cons_zero,List.set_cons_succ,i64_w,i32_w]
                  rfl
                 refine pure_ (i := 18) (N := some 55) (v := ?_) (a' := ?_) #[true,true,false,true,false,false,false,true,false,false,false,true,true,false,true,false,false,false,true,false,false,false,false,false,false,false,false] rfl rfl (any_of HT_.out (by kernel_rfl)) (fun _ _ _ h => h) (Or.inl ⟨by rfl,?_⟩) ?_ ?_
                 rotate_left
                 ·intro w'
                  go_simp
                  with_reducible rfl
                 rotate_left
                 ·simp only [Act.put,List.setIfInBounds_toArray,List.set_cons_zero,List.set_cons_succ,i64_w,i32_w]
                  rfl
                 refine take_ (i := 2) (N := some 39) (v := ?_) (a' := ?_) #[true,true,true,true,false,false,false,true,false,false,false,true,true,false,true,false,false,false,true,false,false,false,false,false,false,false,false] rfl rfl (take_ofW HT_.out HW_.out (by kernel_rfl)) (fun _ _ _ h => h) (Or.inl ⟨by rfl,?_⟩) hHeld ?_ ?_
                 rotate_left
                 ·rintro w' ⟨s0,s1,s2,s3,s4,s5,s6,s7,s8,s9,s10,s11,s12,s13,s14,s15,s16,s17,s18,s19,s20,s21,s22,s23⟩
                  go_simp
                  with_reducible rfl
                 rotate_left
                 ·simp only [Act.put,List.setIfInBounds_toArray,List.set_cons_zero,List.set_cons_succ,i64_w,i32_w]
                  rfl
                 refine pure_ (i := 4) (N := some 41) (v := ?_) (a' := ?_) #[true,true,true,true,true,false,false,true,false,false,false,true,true,false,true,false,false,false,true,false,false,false,false,false,false,false,false] rfl rfl (any_of HT_.out (by kernel_rfl)) (fun _ _ _ h => h) (Or.inl ⟨by rfl,?_⟩) ?_ ?_
                 rotate_left
                 ·intro w'
                  go_simp
                  with_reducible rfl
                 rotate_left
                 ·simp only [Act.put,List.setIfInBounds_toArray,List.set_cons_zero,List.set_cons_succ,i64_w,i32_w]
                  rfl
                 refine pure_ (i := 5) (N := some 42) (v := ?_) (a' := ?_) #[true,true,true,true,true,true,false,true,false,false,false,true,true,false,true,false,false,false,true,false,false,false,false,false,false,false,false] rfl rfl (any_of HT_.out (by kernel_rfl)) (fun _ _ _ h => h) (Or.inl ⟨by rfl,?_⟩) ?_ ?_
                 rotate_left
                 ·intro w'
                  go_simp
                  with_reducible rfl
                 rotate_left
                 ·simp only [Act.put,List.setIfInBounds_toArray,List.set_cons_zero,List.set_cons_succ,i64_w,i32_w]
                  rfl
                 refine take_ (i := 6) (N := some 43) (v := ?_) (a' := ?_) #[true,true,true,true,true,true,true,true,false,false,false,true,true,false,true,false,false,false,true,false,false,false,false,false,false,false,false] rfl rfl (take_ofW HT_.out HW_.out (by kernel_rfl)) (fun _ _ _ h => h) (Or.inl ⟨by rfl,?_⟩) hHeld ?_ ?_
                 rotate_left
                 ·rintro w' ⟨s0,s1,s2,s3,s4,s5,s6,s7,s8,s9,s10,s11,s12,s13,s14,s15,s16,s17,s18,s19,s20,s21,s22,s23⟩
                  go_simp
                  with_reducible rfl
                 rotate_left
                 ·simp only [Act.put,List.setIfInBounds_toArray,List.set_cons_zero,List.set_cons_succ,i64_w,i32_w]
                  rfl
                 refine pure_ (i := 8) (N := some 45) (v := ?_) (a' := ?_) #[true,true,true,true,true,true,true,true,true,false,false,true,true,false,true,false,false,false,true,false,false,false,false,false,false,false,false] rfl rfl (any_of HT_.out (by kernel_rfl)) (fun _ _ _ h => h) (Or.inl ⟨by rfl,?_⟩) ?_ ?_
                 rotate_left
                 ·intro w'
                  go_simp
                  with_reducible rfl
                 rotate_left
                 ·simp only [Act.put,List.setIfInBounds_toArray,List.set_cons_zero,List.set_cons_succ,i64_w,i32_w]
                  rfl
                 refine pure_ (i := 9) (N := some 46) (v := ?_) (a' := ?_) #[true,true,true,true,true,true,true,true,true,true,false,true,true,false,true,false,false,false,true,false,false,false,false,false,false,false,false] rfl rfl (any_of HT_.out (by kernel_rfl)) (fun _ _ _ h => h) (Or.inl ⟨by rfl,?_⟩) ?_ ?_
                 rotate_left
                 ·intro w'
                  go_simp
                  with_reducible rfl
                 rotate_left
                 ·simp only [Act.put,List.setIfInBounds_toArray,List.set_cons_zero,List.set_cons_succ,i64_w,i32_w]
                  rfl
                 refine take_ (i := 10) (N := some 47) (v := ?_) (a' := ?_) #[true,true,true,true,true,true,true,true,true,true,true,true,true,false,true,false,false,false,true,false,false,false,false,false,false,false,false] rfl rfl (take_ofW HT_.out HW_.out (by kernel_rfl)) (fun _ _ _ h => h) (Or.inl ⟨by rfl,?_⟩) hHeld ?_ ?_
                 rotate_left
                 ·rintro w' ⟨s0,s1,s2,s3,s4,s5,s6,s7,s8,s9,s10,s11,s12,s13,s14,s15,s16,s17,s18,s19,s20,s21,s22,s23⟩
                  go_simp
                  with_reducible rfl
                 rotate_left
                 ·simp only [Act.put,List.setIfInBounds_toArray,List.set_cons_zero,List.set_cons_succ,i64_w,i32_w]
                  rfl
                 refine take_ (i := 13) (N := some 50) (v := ?_) (a' := ?_) #[true,true,true,true,true,true,true,true,true,true,true,true,true,true,true,false,false,false,true,false,false,false,false,false,false,false,false] rfl rfl (take_ofW HT_.out HW_.out (by kernel_rfl)) (fun _ _ _ h => h) (Or.inl ⟨by rfl,?_⟩) hHeld ?_ ?_
                 rotate_left
                 ·rintro w' ⟨s0,s1,s2,s3,s4,s5,s6,s7,s8,s9,s10,s11,s12,s13,s14,s15,s16,s17,s18,s19,s20,s21,s22,s23⟩
                  go_simp
                  with_reducible rfl
                 rotate_left
                 ·simp only [Act.put,List.setIfInBounds_toArray,List.set_cons_zero,List.set_cons_succ,i64_w,i32_w]
                  rfl
                 refine pure_ (i := 15) (N := some 52) (v := ?_) (a' := ?_) #[true,true,true,true,true,true,true,true,true,true,true,true,true,true,true,true,false,false,true,false,false,false,false,false,false,false,false] rfl rfl (any_of HT_.out (by kernel_rfl)) (fun _ _ _ h => h) (Or.inl ⟨by rfl,?_⟩) ?_ ?_
                 rotate_left
                 ·intro w'
                  go_simp
                  with_reducible rfl
                 rotate_left
                 ·simp only [Act.put,List.setIfInBounds_toArray,List.set_cons_zero,List.set_cons_succ,i64_w,i32_w]
                  rfl
                 refine pure_ (i := 16) (N := some 53) (v := ?_) (a' := ?_) #[true,true,true,true,true,true,true,true,true,true,true,true,true,true,true,true,true,false,true,false,false,false,false,false,false,false,false] rfl rfl (any_of HT_.out (by kernel_rfl)) (fun _ _ _ h => h) (Or.inl ⟨by rfl,?_⟩) ?_ ?_
                 rotate_left
                 ·intro w'
                  go_simp
                  with_reducible rfl
                 rotate_left
                 ·simp only [Act.put,List.setIfInBounds_toArray,List.set_cons_zero,List.set_cons_succ,i64_w,i32_w]
                  rfl
                 refine take_ (i := 17) (N := some 54) (v := ?_) (a' := ?_) #[true,true,true,true,true,true,true,true,true,true,true,true,true,true,true,true,true,true,true,false,false,false,false,false,false,false,false] rfl rfl (take_ofW HT_.out HW_.out (by kernel_rfl)) (fun _ _ _ h => h) (Or.inl ⟨by rfl,?_⟩) hHeld ?_ ?_
                 rotate_left
                 ·rintro w' ⟨s0,s1,s2,s3,s4,s5,s6,s7,s8,s9,s10,s11,s12,s13,s14,s15,s16,s17,s18,s19,s20,s21,s22,s23⟩
                  go_simp
                  with_reducible rfl
                 rotate_left
                 ·simp only [Act.put,List.setIfInBounds_toArray,List.set_cons_zero,List.set_cons_succ,i64_w,i32_w]
                  rfl
                 refine pure_ (i := 19) (N := some 56) (v := ?_) (a' := ?_) #[true,true,true,true,true,true,true,true,true,true,true,true,true,true,true,true,true,true,true,true,false,false,false,false,false,false,false] rfl rfl (any_of HT_.out (by kernel_rfl)) (fun _ _ _ h => h) (Or.inl ⟨by rfl,?_⟩) ?_ ?_
                 rotate_left
                 ·intro w'
                  go_simp
                  with_reducible rfl
                 rotate_left
                 ·simp only [Act.put,List.setIfInBounds_toArray,List.set_cons_zero,List.set_cons_succ,i64_w,i32_w]
                  rfl
                 refine pure_ (i := 20) (N := some 57) (v := ?_) (a' := ?_) #[true,true,true,true,true,true,true,true,true,true,true,true,true,true,true,true,true,true,true,true,true,false,false,false,false,false,false] rfl rfl (any_of HT_.out (by kernel_rfl)) (fun _ _ _ h => h) (Or.inl ⟨by rfl,?_⟩) ?_ ?_
                 rotate_left
                 ·intro w'
                  go_simp
                  with_reducible rfl
                 rotate_left
                 ·simp only [Act.put,List.setIfInBounds_toArray,List.set_cons_zero,List.set_cons_succ,i64_w,i32_w]
                  rfl
                 refine take_ (i := 21) (N := some 58) (v := ?_) (a' := ?_) #[true,true,true,true,true,true,true,true,true,true,true,true,true,true,true,true,true,true,true,true,true,true,false,false,false,false,false] rfl rfl (take_ofW HT_.out HW_.out (by kernel_rfl)) (fun _ _ _ h => h) (Or.inl ⟨by rfl,?_⟩) hHeld ?_ ?_
                 rotate_left
                 ·rintro w' ⟨s0,s1,s2,s3,s4,s5,s6,s7,s8,s9,s10,s11,s12,s13,s14,s15,s16,s17,s18,s19,s20,s21,s22,s23⟩
                  go_simp
                  with_reducible rfl
                 rotate_left
                 ·simp only [Act.put,List.setIfInBounds_toArray,List.set_cons_zero,List.set_cons_succ,i64_w,i32_w]
                  rfl
                 refine pure_ (i := 22) (N := some 59) (v := ?_) (a' := ?_) #[true,true,true,true,true,true,true,true,true,true,true,true,true,true,true,true,true,true,true,true,true,true,true,false,false,false,false] rfl rfl (any_of HT_.out (by kernel_rfl)) (fun _ _ _ h => h) (Or.inl ⟨by rfl,?_⟩) ?_ ?_
                 rotate_left
                 ·intro w'
                  go_simp
                  with_reducible rfl
                 rotate_left
                 ·simp only [Act.put,List.setIfInBounds_toArray,List.set_cons_zero,List.set_cons_succ,i64_w,i32_w]
                  rfl
                 refine take_ (i := 23) (N := some 60) (v := ?_) (a' := ?_) #[true,true,true,true,true,true,true,true,true,true,true,true,true,true,true,true,true,true,true,true,true,true,true,true,false,false,false] rfl rfl (take_ofW HT_.out HW_.out (by kernel_rfl)) (fun _ _ _ h => h) (Or.inl ⟨by rfl,?_⟩) hHeld ?_ ?_
                 rotate_left
                 ·rintro w' ⟨s0,s1,s2,s3,s4,s5,s6,s7,s8,s9,s10,s11,s12,s13,s14,s15,s16,s17,s18,s19,s20,s21,s22,s23⟩
                  go_simp
                  with_reducible rfl
                 rotate_left
                 ·simp only [Act.put,List.setIfInBounds_toArray,List.set_cons_zero,List.set_cons_succ,i64_w,i32_w]
                  rfl
                 refine pure_ (i := 24) (N := some 61) (v := ?_) (a' := ?_) #[true,true,true,true,true,true,true,true,true,true,true,true,true,true,true,true,true,true,true,true,true,true,true,true,true,false,false] rfl rfl (any_of HT_.out (by kernel_rfl)) (fun _ _ _ h => h) (Or.inl ⟨by rfl,?_⟩) ?_ ?_
                 rotate_left
                 ·intro w'
                  go_simp
                  with_reducible rfl
                 rotate_left
                 ·simp only [Act.put,List.setIfInBounds_toArray,List.set_cons_zero,List.set_cons_succ,i64_w,i32_w]
                  rfl
                 refine pure_ (i := 25) (N := some 62) (v := ?_) (a' := ?_) #[true,true,true,true,true,true,true,true,true,true,true,true,true,true,true,true,true,true,true,true,true,true,true,true,true,true,false] rfl rfl (any_of HT_.out (by kernel_rfl)) (fun _ _ _ h => h) (Or.inl ⟨by rfl,?_⟩) ?_ ?_
                 rotate_left
                 ·intro w'
                  go_simp
                  with_reducible rfl
                 rotate_left
                 ·simp only [Act.put,List.setIfInBounds_toArray,List.set_cons_zero,List.set_cons_succ,i64_w,i32_w]
                  rfl
                 refine last_ (i := 26) (N := none) #[true,true,true,true,true,true,true,true,true,true,true,true,true,true,true,true,true,true,true,true,true,true,true,true,true,true,true] rfl rfl (one_of HT_.out (by kernel_rfl)) (by decide) (fun K hK => ?_)
                 refine skip_ (w1 := ?_) (by rfl) rfl ?_ ?_
                 rotate_left
                 ·go_simp
                  rfl
                 refine hK.out _ _ ?_
                 clear hK K
                 refine done_ (done_of HT_.out (by kernel_rfl)) ?_
                 try go_wp2
                 go_roundg k2
                 case measure => have := HK1.out; have := HK2.out; omega
                 case rel => exact ⟨(y217),(wrap64 (x5_2 + 1)),(by first | rfl | (simp; done) | (simp [*]; done)),H',⟨by have := HK1.out; have := HK2.out; omega⟩,⟨by (with_reducible repeat (first | apply Kd.R_alloc | apply Kd.R_drewN | apply Kd.R_drew)); exact HQ25.out⟩,⟨by (with_reducible repeat (first | refine zN ?_ _ | refine zD ?_ | refine zA ?_ _)); refine blk_far ?_ (by have h_ := Kd.R_ne HO_3.out BK205.out (by decide); intro e_; exact h_ (by rw [e_]; rfl)) _; (with_reducible repeat (first | refine zN ?_ _ | refine zD ?_ | refine zA ?_ _)); first | exact BK205.out | (simp only [*]; exact BK205.out)⟩,⟨by repeat (first | (with_reducible first | exact HB.out | apply yA | apply yN | apply yD | refine yS ?_ GB21.out | refine yS ?_ GE205.out) | exact HB.out)⟩⟩
                ·rw [if_neg c20] at H
                 exact absurd H (by simp)
               ·rw [if_neg c19] at H
                exact absurd H (by simp)
              ·rw [if_neg c18] at H
               exact absurd H (by simp)
             ·rw [if_neg c17] at H;have c17b0 : decide (x5_2 < (((rd_T34 l0_0 x4_1).f8).length : Int)) = false := decide_eq_false c17;clear c17;have H' := Aside0.mk H;clear H;have hcz26 := pk1 BK205.out;have p211 : 0 ≤ (x4_1 : Int) := od_ (by first | (with_reducible assumption) | assumption);have q211 : x4_1 < (l0_0.length : Int) := od_ (by first | (with_reducible assumption) | assumption);obtain ⟨ad211,A211_8,c211_8,e211,hx211_0,hx211_1,hx211_2,hx211_3,hx211_4,hx211_5,hx211_6,hx211_7,hx211_8,hl211_8,hi211_8⟩ := at_T34 HR0_0.out x4_1 p211 q211;obtain rfl : ad209 = ad211 := (by injection e211);replace hx211_0 := bc_ HB hx211_0;replace hx211_1 := bc_ HB hx211_1;replace hx211_2 := bc_ HB hx211_2;replace hx211_3 := bc_ HB hx211_3;replace hx211_4 := bc_ HB hx211_4;replace hx211_5 := bc_ HB hx211_5;replace hx211_6 := bc_ HB hx211_6;replace hx211_7 := bc_ HB hx211_7;replace hx211_8 := bc_ HB hx211_8;have HR211_8 := Aside0.mk hi211_8;have HC211_8 := Aside0.mk hl211_8;clear hi211_8 hl211_8;replace p211 := eq_true p211;replace q211 := eq_true q211
              go_wp2
              go_roundg k2
              case measure => have := HK1.out; have := HK2.out; omega
              case rel => exact ⟨(x3_2),(wrap64 (x4_1 + 1)),(by first | rfl | (simp; done) | (simp [*]; done)),H',⟨by have := HK1.out; have := HK2.out; omega⟩,⟨by (with_reducible repeat (first | apply Kd.R_alloc | apply Kd.R_drewN | apply Kd.R_drew)); exact HO_3.out⟩,⟨by (with_reducible repeat (first | refine zN ?_ _ | refine zD ?_ | refine zA ?_ _)); first | exact BK205.out | (simp only [*]; exact BK205.out)⟩,⟨by repeat (first | (with_reducible first | exact HB.out | apply yA | apply yN | apply yD | refine yS ?_ GE205.out) | exact HB.out)⟩⟩
            ·rw [if_neg c16] at H
             exact absurd H (by simp)
           ·rw [if_neg c15] at H
            exact absurd H (by simp)
        ·replace c12 := Bool.eq_false_iff.mpr c12;subst c12;(have H1 : (some false) = some r := by rw [if_neg (show ¬ (false = true) by decide)] at H; exact H);clear H;have H := H1;clear H1;obtain rfl := Option.some.inj H
         simp only [Option.some.injEq,Prod.mk.injEq] at H
         obtain ⟨rfl⟩ := H;have hcz27 := pk1 BK205.out;have p209 : 0 ≤ (x4_1 : Int) := od_ (by first | (with_reducible assumption) | assumption);have q209 : x4_1 < (l0_0.length : Int) := od_ (by first | (with_reducible assumption) | assumption);obtain ⟨ad209,A209_8,c209_8,e209,hx209_0,hx209_1,hx209_2,hx209_3,hx209_4,hx209_5,hx209_6,hx209_7,hx209_8,hl209_8,hi209_8⟩ := at_T34 HR0_0.out x4_1 p209 q209
         cases e209
         replace hx209_0 := bc_ HB hx209_0;replace hx209_1 := bc_ HB hx209_1;replace hx209_2 := bc_ HB hx209_2;replace hx209_3 := bc_ HB hx209_3;replace hx209_4 := bc_ HB hx209_4;replace hx209_5 := bc_ HB hx209_5;replace hx209_6 := bc_ HB hx209_6;replace hx209_7 := bc_ HB hx209_7;replace hx209_8 := bc_ HB hx209_8;have HR209_8 := Aside0.mk hi209_8;have HC209_8 := Aside0.mk hl209_8;clear hi209_8 hl209_8;replace p209 := eq_true p209;replace q209 := eq_true q209
         go_wp2_with (first | ((with_reducible refine gate_callee (f := 40) rfl ?_); refine goesL_ (some 24) rfl rfl Try.func40 (by kernel_rfl) rfl #[.agg #[.int .i64 ((rd_T34 l0_0 x4_1).f0),.int .i64 ((rd_T34 l0_0 x4_1).f1),.int .i64 ((rd_T34 l0_0 x4_1).f2),.int .i64 ((rd_T34 l0_0 x4_1).f3),.int .i64 ((rd_T34 l0_0 x4_1).f4),.int .i64 ((rd_T34 l0_0 x4_1).f5),.bool ((rd_T34 l0_0 x4_1).f6),.string ((rd_T34 l0_0 x4_1).f7),.slice A209_8 ((rd_T34 l0_0 x4_1).f8).length c209_8]] rfl (by (try simp only [List.map_toArray,List.map_cons,List.map_nil]); first | done | rfl | (simp only [List.length_drop,List.length_take]; rfl)) ?_; (with_reducible refine (spec_l7Inode.calls k1 ((rd_T34 l0_0 x4_1).f0) ((rd_T34 l0_0 x4_1).f1) ((rd_T34 l0_0 x4_1).f2) ((rd_T34 l0_0 x4_1).f3) ((rd_T34 l0_0 x4_1).f4) ((rd_T34 l0_0 x4_1).f5) ((rd_T34 l0_0 x4_1).f6) ((rd_T34 l0_0 x4_1).f7) _ _ ((rd_T34 l0_0 x4_1).f8) false _ ?side1 ?side2 A11.out).mono ?_); (case side1 => repeat (first | exact (Kd.C_below HR209_8.out HB.out) | (with_reducible refine Kd.C_alloc ?_ _) | (with_reducible refine Kd.C_drewN ?_ _) | (with_reducible refine Kd.C_drew ?_))); (case side2 => exact HC209_8.out); rintro e w28 ⟨rfl,hb⟩; refine ⟨_,rfl,?_⟩; have n0_ := Aside0.mk (Kd.R_below (by (with_reducible repeat (first | apply Kd.R_alloc | apply Kd.R_drewN | apply Kd.R_drew)); exact HO_3.out) hb); have n1_ := Aside0.mk (blk_below (g := gb205) (o := .cells #[.slice (some ad209) l0_0.length c0_0] 27 (0,0)) (by (with_reducible repeat (first | refine zN ?_ _ | refine zD ?_ | refine zA ?_ _)); exact BK205.out) hb); have n2_ := Aside0.mk (below_step (by repeat (first | (with_reducible first | exact HB.out | apply yA | apply yN | apply yD | refine yS ?_ GE205.out) | exact HB.out)) hb); clear HO_3; clear BK205; clear HB; have HO_3 := n0_; have BK205 := n1_; have HB := n2_; clear n0_ n1_ n2_; (try clear hb); (try clear hb2); (try clear hk); (try clear hi)))
         go_ret
         exact ⟨by first | rfl | (simp [errW_none,errW_some] <;> rfl) | (simp [*,errW_none,errW_some] <;> rfl),by repeat (first | (with_reducible first | exact HB.out | apply yA | apply yN | apply yD | refine yS ?_ GE205.out) | exact HB.out)⟩
       ·rw [if_neg c10] at H
        exact absurd H (by simp)
      ·rw [if_neg c9] at H
       exact absurd H (by simp)
     ·rw [if_neg c8] at H;have c8b0 : decide (x4_1 < 10) = false := decide_eq_false c8;clear c8;by_cases c29 : 0 < (l0_0.length : Int)
      ·rw [if_pos c29] at H;have c29b0 : decide (0 < (l0_0.length : Int)) = true := decide_eq_true c29;have c29b1 : decide (0 < l0_0.length) = true := decide_eq_true (by omega);clear c29;by_cases c30 : ((rd_T34 l0_0 0).f0) = 2
       ·rw [if_pos c30] at H;have c30b0 : (((rd_T34 l0_0 0).f0) == 2) = true := beq_iff_eq.mpr c30;have c30b1 : (((rd_T34 l0_0 0).f0) != 2) = false := bne_eq_false_iff_eq.mpr c30;have c30b2 : (((rd_T34 l0_0 0).f0) == 1) = false := beq_eq_false_iff_ne.mpr (by omega);have c30b3 : (((rd_T34 l0_0 0).f0) != 1) = true := bne_iff_ne.mpr (by omega);clear c30;replace H := Option.bind_eq_some_iff.mp H;obtain ⟨⟨t219,t222⟩,A310,H⟩ := H;replace H : (spec_FsOk.l2 k1 x3_1 t219 t222 0 l0_0) = some r := H;have A31 := Aside0.mk A310;clear A310;have H' := Aside0.mk H;clear H;have hcz32 := pk1 BK205.out;have p218 : 0 ≤ (0 : Int) := (by omega);have q218 : 0 < (l0_0.length : Int) := od_ (by first | (with_reducible assumption) | assumption);obtain ⟨ad218,A218_8,c218_8,e218,hx218_0,hx218_1,hx218_2,hx218_3,hx218_4,hx218_5,hx218_6,hx218_7,hx218_8,hl218_8,hi218_8⟩ := at_T34 HR0_0.out 0 p218 q218
        cases e218
        have qi218 : (0 < l0_0.length) = True := eq_true (by omega);(try rw [show ((0 : Int)).toNat = 0 from rfl] at hx218_0);(try rw [show 0 * 9 = 0 from rfl] at hx218_0);(try rw [Addr.add_zero'] at hx218_0);(try rw [show ((0 : Int)).toNat = 0 from rfl] at hx218_1);(try rw [show 0 * 9 = 0 from rfl] at hx218_1);(try rw [Addr.add_zero'] at hx218_1);(try rw [show ((0 : Int)).toNat = 0 from rfl] at hx218_2);(try rw [show 0 * 9 = 0 from rfl] at hx218_2);(try rw [Addr.add_zero'] at hx218_2);(try rw [show ((0 : Int)).toNat = 0 from rfl] at hx218_3);(try rw [show 0 * 9 = 0 from rfl] at hx218_3);(try rw [Addr.add_zero'] at hx218_3);(try rw [show ((0 : Int)).toNat = 0 from rfl] at hx218_4);(try rw [show 0 * 9 = 0 from rfl] at hx218_4);(try rw [Addr.add_zero'] at hx218_4);(try rw [show ((0 : Int)).toNat = 0 from rfl] at hx218_5);(try rw [show 0 * 9 = 0 from rfl] at hx218_5);(try rw [Addr.add_zero'] at hx218_5);(try rw [show ((0 : Int)).toNat = 0 from rfl] at hx218_6);(try rw [show 0 * 9 = 0 from rfl] at hx218_6);(try rw [Addr.add_zero'] at hx218_6);(try rw [show ((0 : Int)).toNat = 0 from rfl] at hx218_7);(try rw [show 0 * 9 = 0 from rfl] at hx218_7);(try rw [Addr.add_zero'] at hx218_7);(try rw [show ((0 : Int)).toNat = 0 from rfl] at hx218_8);(try rw [show 0 * 9 = 0 from rfl] at hx218_8);(try rw [Addr.add_zero'] at hx218_8);replace hx218_0 := bc_ HB hx218_0;replace hx218_1 := bc_ HB hx218_1;replace hx218_2 := bc_ HB hx218_2
        replace hx218_3 := bc_ HB hx218_3;replace hx218_4 := bc_ HB hx218_4;replace hx218_5 := bc_ HB hx218_5;replace hx218_6 := bc_ HB hx218_6;replace hx218_7 := bc_ HB hx218_7;replace hx218_8 := bc_ HB hx218_8;have HR218_8 := Aside0.mk hi218_8;have HC218_8 := Aside0.mk hl218_8;clear hi218_8 hl218_8;replace p218 := eq_true p218;replace q218 := eq_true q218
        go_wp2_with (first | ((with_reducible refine gate_callee (f := 41) rfl ?_); refine goesL_ (some 71) rfl rfl Try.func41 (by kernel_rfl) rfl #[.agg #[.slice (some ad218) l0_0.length c0_0]] rfl (by (try simp only [List.map_toArray,List.map_cons,List.map_nil]); first | done | rfl | (simp only [List.length_drop,List.length_take]; rfl)) ?_; (with_reducible refine (spec_l7Folders.calls k1 _ _ l0_0 t219 t222 _ ?side1 ?side2 A31.out).mono ?_); (case side1 => repeat (first | exact (Kd.C_below HR0_0.out HB.out) | (with_reducible refine Kd.C_alloc ?_ _) | (with_reducible refine Kd.C_drewN ?_ _) | (with_reducible refine Kd.C_drew ?_))); (case side2 => exact HC0_0.out); rintro e w33 ⟨v220,rfl,ho0,hb⟩; refine ⟨_,rfl,?_⟩; have n0_ := Aside0.mk (Kd.R_below (by (with_reducible repeat (first | apply Kd.R_alloc | apply Kd.R_drewN | apply Kd.R_drew)); exact HO_3.out) hb); have n1_ := Aside0.mk (Kd.R_lower ho0 (below_size (by repeat (first | (with_reducible first | exact HB.out | apply yA | apply yN | apply yD | refine yS ?_ GE205.out) | exact HB.out)))); have n2_ := Aside0.mk (blk_below (g := gb205) (o := .cells #[.slice (some ad218) l0_0.length c0_0] 27 (0,0)) (by (with_reducible repeat (first | refine zN ?_ _ | refine zD ?_ | refine zA ?_ _)); exact BK205.out) hb); have n3_ := Aside0.mk (below_step (by repeat (first | (with_reducible first | exact HB.out | apply yA | apply yN | apply yD | refine yS ?_ GE205.out) | exact HB.out)) hb); clear HO_3; clear BK205; clear HB; have HO_3 := n0_; have HO221 := n1_; have BK205 := n2_; have HB := n3_; clear n0_ n1_ n2_ n3_; (try clear hb); (try clear hb2); (try clear hk); (try clear hi); (try clear ho0)))
        go_loopg [8] k1 (fun kq v8 w' => ∃ (x8_2 : Int),v8 = .int .i64 x8_2 ∧ Aside0 (spec_FsOk.l2 kq x3_1 t219 t222 x8_2 l0_0 = some r) ∧ Aside0 (kq ≤ k1) ∧ Aside0 (Kd.R (Kd.int .i64) 3 w' w.heap.size (fun _ => True) v207 x3_1) ∧ Aside0 (Kd.R Kd.bool 4 w' w.heap.size (fun _ => True) v220 t219) ∧ Aside0 (w'.heap[gb205]? = some (.cells #[(.slice (some ad218) l0_0.length c0_0)] 27 (0,0))) ∧ Aside0 (Below w.heap.size w w'))
        case atStart => exact ⟨(0),(by first | rfl | (simp; done) | (simp [*]; done)),H',⟨Nat.le_refl _⟩,⟨by (with_reducible repeat (first | apply Kd.R_alloc | apply Kd.R_drewN | apply Kd.R_drew)); exact HO_3.out⟩,⟨by (with_reducible repeat (first | apply Kd.R_alloc | apply Kd.R_drewN | apply Kd.R_drew)); exact HO221.out⟩,⟨by (with_reducible repeat (first | refine zN ?_ _ | refine zD ?_ | refine zA ?_ _)); first | exact BK205.out | (simp only [*]; exact BK205.out)⟩,⟨by repeat (first | (with_reducible first | exact HB.out | apply yA | apply yN | apply yD | refine yS ?_ GE205.out) | exact HB.out)⟩⟩
        case round =>
         clear H';(try clear c1);(try clear c2);(try clear c2b0);(try clear c2b1);(try clear c2b2);(try clear p2);(try clear q2);(try clear hx2);(try clear qi2);(try clear hf2);(try clear c3);(try clear c3b0);(try clear c3b1);(try clear c4);(try clear p6);(try clear c8);(try clear c8b0);(try clear c9);(try clear c9b0);(try clear c10);(try clear c10b0);(try clear c12);(try clear c15);(try clear c15b0);(try clear c16);(try clear c16b0);(try clear c17);(try clear c17b0);(try clear c18);(try clear c18b0);(try clear c19);(try clear c19b0);(try clear c20);(try clear c20b0);(try clear p20);(try clear q20);(try clear hx20);(try clear c21);(try clear p21);(try clear q21);(try clear hx21);(try clear qi21);(try clear hf21);(try clear c29);(try clear c29b0);(try clear c29b1);(try clear c30);(try clear c30b0);(try clear c30b1);(try clear c30b2);(try clear hcz13);(try clear hcz22);(try clear hcz26);(try clear hcz27);(try clear hcz32);(try clear hcz5);(try clear hx209_0);(try clear hx209_1);(try clear hx209_2);(try clear hx209_3);(try clear hx209_4);(try clear hx209_5);(try clear hx209_6);(try clear hx209_7);(try clear hx209_8);(try clear hx211_0);(try clear hx211_1);(try clear hx211_2);(try clear hx211_3);(try clear hx211_4);(try clear hx211_5);(try clear hx211_6);(try clear hx211_7);(try clear hx211_8);(try clear hx212_0);(try clear hx212_1);(try clear hx212_2);(try clear hx212_3);(try clear hx212_4);(try clear hx212_5);(try clear hx212_6);(try clear hx212_7);(try clear hx212_8);(try clear hx213_0)
         (try clear hx213_1);(try clear hx214_0);(try clear hx214_1);(try clear hx214_2);(try clear hx214_3);(try clear hx214_4);(try clear hx214_5);(try clear hx214_6);(try clear hx214_7);(try clear hx214_8);(try clear hx215_0);(try clear hx215_1);(try clear hx216_0);(try clear hx218_0);(try clear hx218_1);(try clear hx218_2);(try clear hx218_3);(try clear hx218_4);(try clear hx218_5);(try clear hx218_6);(try clear hx218_7);(try clear hx218_8);(try clear hx21_0);(try clear p2);(try clear p209);(try clear p21);(try clear p211);(try clear p212);(try clear p213);(try clear p214);(try clear p215);(try clear p216);(try clear p218);(try clear q2);(try clear q209);(try clear q21);(try clear q211);(try clear q212);(try clear q213);(try clear q214);(try clear q215);(try clear q216);(try clear q218);obtain ⟨x8_2,rfl,HA,HK2,HO_3,HO_6,BK205,HB⟩ := hrel
         cases gk with
         | zero => exact absurd HA.out (by simp [spec_FsOk.l2])
         | succ k2 =>
          have H := HA.out;clear HA
          simp only [spec_FsOk.l2] at H
          by_cases c34 : x8_2 < 10
          ·rw [if_pos c34] at H;have c34b0 : decide (x8_2 < 10) = true := decide_eq_true c34;clear c34;by_cases c35 : t222 = true
           ·subst c35;(have H1 : (if 0 ≤ x8_2 then (if x8_2 < (l0_0.length : Int) then (if x8_2 < (x3_1.length : Int) then (if (rd x3_1 x8_2) > 0 then (if ((rd_T34 l0_0 x8_2).f0) = 0 then (spec_FsOk.j3 k2 x3_1 t219 true x8_2 true l0_0) else (if ((rd_T34 l0_0 x8_2).f4) = (rd x3_1 x8_2) then (if ((rd_T34 l0_0 x8_2).f0) = 2 then (if x8_2 < (t219.length : Int) then (if rdOf false t219 x8_2 = true then (spec_FsOk.j3 k2 x3_1 t219 true x8_2 false l0_0) else (spec_FsOk.j3 k2 x3_1 t219 true x8_2 true l0_0)) else (none)) else (if ((rd_T34 l0_0 x8_2).f0) = 1 then (if ((rd_T34 l0_0 x8_2).f4) = 0 then (spec_FsOk.j3 k2 x3_1 t219 true x8_2 (((rd_T34 l0_0 x8_2).f5) == 0) l0_0) else (spec_FsOk.j3 k2 x3_1 t219 true x8_2 false l0_0)) else (spec_FsOk.j3 k2 x3_1 t219 true x8_2 false l0_0))) else (spec_FsOk.j3 k2 x3_1 t219 true x8_2 true l0_0))) else (if ((rd_T34 l0_0 x8_2).f0) = 0 then (spec_FsOk.j3 k2 x3_1 t219 true x8_2 false l0_0) else (if ((rd_T34 l0_0 x8_2).f4) = (rd x3_1 x8_2) then (if ((rd_T34 l0_0 x8_2).f0) = 2 then (if x8_2 < (t219.length : Int) then (if rdOf false t219 x8_2 = true then (spec_FsOk.j3 k2 x3_1 t219 true x8_2 false l0_0) else (spec_FsOk.j3 k2 x3_1 t219 true x8_2 true l0_0)) else (none)) else (if ((rd_T34 l0_0 x8_2).f0) = 1 then (if ((rd_T34 l0_0 x8_2).f4) = 0 then (spec_FsOk.j3 k2 x3_1 t219 true x8_2 (((rd_T34 l0_0 x8_2).f5) == 0) l0_0) else (spec_FsOk.j3 k2 x3_1 t219 true x8_2 false l0_0)) else (spec_FsOk.j3 k2 x3_1 t219 true x8_2 false l0_0))) else (spec_FsOk.j3 k2 x3_1 t219 true x8_2 true l0_0)))) else (none)) else (none)) else (none)) = some r := by rw [if_pos rfl] at H; exact H)
            clear H;have H := H1;clear H1;by_cases c36 : 0 ≤ x8_2
            ·rw [if_pos c36] at H;have c36b0 : decide (0 ≤ x8_2) = true := decide_eq_true c36;clear c36;by_cases c37 : x8_2 < (l0_0.length : Int)
             ·rw [if_pos c37] at H;have c37b0 : decide (x8_2 < (l0_0.length : Int)) = true := decide_eq_true c37;clear c37;have HC38 := Aside0.mk H;clear H;have hcz39 := pk1 BK205.out;have p223 : 0 ≤ (x8_2 : Int) := od_ (by first | (with_reducible assumption) | assumption);have q223 : x8_2 < (l0_0.length : Int) := od_ (by first | (with_reducible assumption) | assumption);obtain ⟨ad223,A223_8,c223_8,e223,hx223_0,hx223_1,hx223_2,hx223_3,hx223_4,hx223_5,hx223_6,hx223_7,hx223_8,hl223_8,hi223_8⟩ := at_T34 HR0_0.out x8_2 p223 q223;obtain rfl : ad218 = ad223 := (by injection e223);replace hx223_0 := bc_ HB hx223_0;replace hx223_1 := bc_ HB hx223_1;replace hx223_2 := bc_ HB hx223_2;replace hx223_3 := bc_ HB hx223_3;replace hx223_4 := bc_ HB hx223_4;replace hx223_5 := bc_ HB hx223_5;replace hx223_6 := bc_ HB hx223_6;replace hx223_7 := bc_ HB hx223_7;replace hx223_8 := bc_ HB hx223_8;have HR223_8 := Aside0.mk hi223_8;have HC223_8 := Aside0.mk hl223_8;clear hi223_8 hl223_8;replace p223 := eq_true p223;replace q223 := eq_true q223
              go_upto_region 20 with (first | ((with_reducible refine gate_dst (N := 9) rfl ?_); refine box_event ?hg (N := 9) ?hd (cs := #[.int .i64 0,.int .i64 0,.int .i64 0,.int .i64 0,.int .i64 0,.int .i64 0,.bool false,.string (⟨#[]⟩ : ByteArray),.slice none 0 0]) (t := 34) ?hr ?_; (case hd => rfl); (case hg => rfl); (case hr => first | (go_simp; done) | (go_simp; rfl)); intro gb224 hg w40 hbox hb; have n0_ := Aside0.mk (Kd.R_below (by (with_reducible repeat (first | apply Kd.R_alloc | apply Kd.R_drewN | apply Kd.R_drew)); exact HO_3.out) hb); have n1_ := Aside0.mk (Kd.R_below (by (with_reducible repeat (first | apply Kd.R_alloc | apply Kd.R_drewN | apply Kd.R_drew)); exact HO_6.out) hb); have n2_ := Aside0.mk (blk_below (g := gb205) (o := .cells #[.slice (some ad218) l0_0.length c0_0] 27 (0,0)) (by (with_reducible repeat (first | refine zN ?_ _ | refine zD ?_ | refine zA ?_ _)); exact BK205.out) hb); have n3_ := Aside0.mk (below_step (by repeat (first | (with_reducible first | exact HB.out | apply yA | apply yN | apply yD | refine yS ?_ GE205.out) | exact HB.out)) hb); have n4_ := Aside0.mk (hbox); have n5_ := Aside0.mk ((by rw [hg]; exact (below_size (by repeat (first | (with_reducible first | exact HB.out | apply yA | apply yN | apply yD | refine yS ?_ GE205.out) | exact HB.out))) : w.heap.size ≤ gb224)); have n6_ := Aside0.mk ((by rw [hg]; exact (below_size (by repeat (first | (with_reducible first | exact HB.out | apply yA | apply yN | apply yD | refine yS ?_ GE205.out) | exact HB.out))) : w.heap.size ≤ gb224)); have n7_ := Aside0.mk ((by rw [hg]; exact Nat.ne_of_lt (blk_lt (g := gb205) (o := .cells #[.slice (some ad218) l0_0.length c0_0] 27 (0,0)) (by (with_reducible repeat (first | refine zN ?_ _ | refine zD ?_ | refine zA ?_ _)); exact BK205.out)) : gb205 ≠ gb224)); have n8_ := Aside0.mk ((by rw [hg]; exact Nat.ne_of_gt (blk_lt (g := gb205) (o := .cells #[.slice (some ad218) l0_0.length c0_0] 27 (0,0)) (by (with_reducible repeat (first | refine zN ?_ _ | refine zD ?_ | refine zA ?_ _)); exact BK205.out)) : gb224 ≠ gb205)); clear HO_3; clear HO_6; clear BK205; clear HB; have HO_3 := n0_; have HO_6 := n1_; have BK205 := n2_; have HB := n3_; have BK224 := n4_; have GW224 := n5_; have GE224 := n6_; have NB205_224 := n7_; have NB224_205 := n8_; clear n0_ n1_ n2_ n3_ n4_ n5_ n6_ n7_ n8_; clear hb hbox hg; have hnb41 := NB224_205.out; have hnc41 := NB205_224.out; have hcz42 := pk9 BK224.out))
              (try simp only [Act.put,List.setIfInBounds_toArray,List.set_cons_zero,List.set_cons_succ])
              go_cut [136] (fun v136 wc => ∃ (kq : Nat) (x136_37 : Bool),v136 = .bool x136_37 ∧ Aside0 (spec_FsOk.j3 kq x3_1 t219 true x8_2 x136_37 l0_0 = some r) ∧ Aside0 (kq ≤ k2) ∧ Aside0 (Kd.R (Kd.int .i64) 3 wc w.heap.size (fun _ => True) v207 x3_1) ∧ Aside0 (Kd.R Kd.bool 4 wc w.heap.size (fun _ => True) v220 t219) ∧ Aside0 (wc.heap[gb205]? = some (.cells #[(.slice (some ad218) l0_0.length c0_0)] 27 (0,0))) ∧ Aside0 (wc.heap[gb224]? = some (.cells #[.int .i64 ((rd_T34 l0_0 x8_2).f0),.int .i64 ((rd_T34 l0_0 x8_2).f1),.int .i64 ((rd_T34 l0_0 x8_2).f2),.int .i64 ((rd_T34 l0_0 x8_2).f3),.int .i64 ((rd_T34 l0_0 x8_2).f4),.int .i64 ((rd_T34 l0_0 x8_2).f5),.bool ((rd_T34 l0_0 x8_2).f6),.string ((rd_T34 l0_0 x8_2).f7),(.slice A223_8 ((rd_T34 l0_0 x8_2).f8).length c223_8)] 34 (0,0))) ∧ Aside0 (Below w.heap.size w wc))
              case first =>
               have H := HC38.out;clear HC38;have n0_ : Aside0 (Kd.R (Kd.int .i64) 3 (((((((((w40.setCell ⟨gb224,0,none⟩ (.int .i64 ((rd_T34 l0_0 x8_2).f0))).setCell ⟨gb224,1,none⟩ (.int .i64 ((rd_T34 l0_0 x8_2).f1))).setCell ⟨gb224,2,none⟩ (.int .i64 ((rd_T34 l0_0 x8_2).f2))).setCell ⟨gb224,3,none⟩ (.int .i64 ((rd_T34 l0_0 x8_2).f3))).setCell ⟨gb224,4,none⟩ (.int .i64 ((rd_T34 l0_0 x8_2).f4))).setCell ⟨gb224,5,none⟩ (.int .i64 ((rd_T34 l0_0 x8_2).f5))).setCell ⟨gb224,6,none⟩ (.bool ((rd_T34 l0_0 x8_2).f6))).setCell ⟨gb224,7,none⟩ (.string ((rd_T34 l0_0 x8_2).f7))).setCell ⟨gb224,8,none⟩ (.slice A223_8 ((rd_T34 l0_0 x8_2).f8).length c223_8)) w.heap.size (fun _ => True) v207 x3_1) := ⟨by (with_reducible repeat (first | apply Kd.R_alloc | apply Kd.R_drewN | apply Kd.R_drew)); exact Kd.R_mono (Kd.R_far (p := ⟨gb224,8,none⟩) (Kd.R_far (p := ⟨gb224,7,none⟩) (Kd.R_far (p := ⟨gb224,6,none⟩) (Kd.R_far (p := ⟨gb224,5,none⟩) (Kd.R_far (p := ⟨gb224,4,none⟩) (Kd.R_far (p := ⟨gb224,3,none⟩) (Kd.R_far (p := ⟨gb224,2,none⟩) (Kd.R_far (p := ⟨gb224,1,none⟩) (Kd.R_far (p := ⟨gb224,0,none⟩) (Kd.R_types HO_3.out BK224.out (by decide)) (fun _ hk => hk.2) (.int .i64 ((rd_T34 l0_0 x8_2).f0))) (fun _ hk => hk.2) (.int .i64 ((rd_T34 l0_0 x8_2).f1))) (fun _ hk => hk.2) (.int .i64 ((rd_T34 l0_0 x8_2).f2))) (fun _ hk => hk.2) (.int .i64 ((rd_T34 l0_0 x8_2).f3))) (fun _ hk => hk.2) (.int .i64 ((rd_T34 l0_0 x8_2).f4))) (fun _ hk => hk.2) (.int .i64 ((rd_T34 l0_0 x8_2).f5))) (fun _ hk => hk.2) (.bool ((rd_T34 l0_0 x8_2).f6))) (fun _ hk => hk.2) (.string ((rd_T34 l0_0 x8_2).f7))) (fun _ hk => hk.2) (.slice A223_8 ((rd_T34 l0_0 x8_2).f8).length c223_8)) (fun _ hk => trivial)⟩
               have n1_ : Aside0 (Kd.R Kd.bool 4 (((((((((w40.setCell ⟨gb224,0,none⟩ (.int .i64 ((rd_T34 l0_0 x8_2).f0))).setCell ⟨gb224,1,none⟩ (.int .i64 ((rd_T34 l0_0 x8_2).f1))).setCell ⟨gb224,2,none⟩ (.int .i64 ((rd_T34 l0_0 x8_2).f2))).setCell ⟨gb224,3,none⟩ (.int .i64 ((rd_T34 l0_0 x8_2).f3))).setCell ⟨gb224,4,none⟩ (.int .i64 ((rd_T34 l0_0 x8_2).f4))).setCell ⟨gb224,5,none⟩ (.int .i64 ((rd_T34 l0_0 x8_2).f5))).setCell ⟨gb224,6,none⟩ (.bool ((rd_T34 l0_0 x8_2).f6))).setCell ⟨gb224,7,none⟩ (.string ((rd_T34 l0_0 x8_2).f7))).setCell ⟨gb224,8,none⟩ (.slice A223_8 ((rd_T34 l0_0 x8_2).f8).length c223_8)) w.heap.size (fun _ => True) v220 t219) := ⟨by (with_reducible repeat (first | apply Kd.R_alloc | apply Kd.R_drewN | apply Kd.R_drew)); exact Kd.R_mono (Kd.R_far (p := ⟨gb224,8,none⟩) (Kd.R_far (p := ⟨gb224,7,none⟩) (Kd.R_far (p := ⟨gb224,6,none⟩) (Kd.R_far (p := ⟨gb224,5,none⟩) (Kd.R_far (p := ⟨gb224,4,none⟩) (Kd.R_far (p := ⟨gb224,3,none⟩) (Kd.R_far (p := ⟨gb224,2,none⟩) (Kd.R_far (p := ⟨gb224,1,none⟩) (Kd.R_far (p := ⟨gb224,0,none⟩) (Kd.R_types HO_6.out BK224.out (by decide)) (fun _ hk => hk.2) (.int .i64 ((rd_T34 l0_0 x8_2).f0))) (fun _ hk => hk.2) (.int .i64 ((rd_T34 l0_0 x8_2).f1))) (fun _ hk => hk.2) (.int .i64 ((rd_T34 l0_0 x8_2).f2))) (fun _ hk => hk.2) (.int .i64 ((rd_T34 l0_0 x8_2).f3))) (fun _ hk => hk.2) (.int .i64 ((rd_T34 l0_0 x8_2).f4))) (fun _ hk => hk.2) (.int .i64 ((rd_T34 l0_0 x8_2).f5))) (fun _ hk => hk.2) (.bool ((rd_T34 l0_0 x8_2).f6))) (fun _ hk => hk.2) (.string ((rd_T34 l0_0 x8_2).f7))) (fun _ hk => hk.2) (.slice A223_8 ((rd_T34 l0_0 x8_2).f8).length c223_8)) (fun _ hk => trivial)⟩
               have n2_ : Aside0 ((((((((((w40.setCell ⟨gb224,0,none⟩ (.int .i64 ((rd_T34 l0_0 x8_2).f0))).setCell ⟨gb224,1,none⟩ (.int .i64 ((rd_T34 l0_0 x8_2).f1))).setCell ⟨gb224,2,none⟩ (.int .i64 ((rd_T34 l0_0 x8_2).f2))).setCell ⟨gb224,3,none⟩ (.int .i64 ((rd_T34 l0_0 x8_2).f3))).setCell ⟨gb224,4,none⟩ (.int .i64 ((rd_T34 l0_0 x8_2).f4))).setCell ⟨gb224,5,none⟩ (.int .i64 ((rd_T34 l0_0 x8_2).f5))).setCell ⟨gb224,6,none⟩ (.bool ((rd_T34 l0_0 x8_2).f6))).setCell ⟨gb224,7,none⟩ (.string ((rd_T34 l0_0 x8_2).f7))).setCell ⟨gb224,8,none⟩ (.slice A223_8 ((rd_T34 l0_0 x8_2).f8).length c223_8)).heap[gb205]? = some (.cells #[.slice (some ad218) l0_0.length c0_0] 27 (0,0))) := ⟨by (with_reducible repeat (first | refine zN ?_ _ | refine zD ?_ | refine zA ?_ _)); refine blk_far ?_ NB205_224.out _; (with_reducible repeat (first | refine zN ?_ _ | refine zD ?_ | refine zA ?_ _)); refine blk_far ?_ NB205_224.out _; (with_reducible repeat (first | refine zN ?_ _ | refine zD ?_ | refine zA ?_ _)); refine blk_far ?_ NB205_224.out _; (with_reducible repeat (first | refine zN ?_ _ | refine zD ?_ | refine zA ?_ _)); refine blk_far ?_ NB205_224.out _; (with_reducible repeat (first | refine zN ?_ _ | refine zD ?_ | refine zA ?_ _)); refine blk_far ?_ NB205_224.out _; (with_reducible repeat (first | refine zN ?_ _ | refine zD ?_ | refine zA ?_ _)); refine blk_far ?_ NB205_224.out _; (with_reducible repeat (first | refine zN ?_ _ | refine zD ?_ | refine zA ?_ _)); refine blk_far ?_ NB205_224.out _; (with_reducible repeat (first | refine zN ?_ _ | refine zD ?_ | refine zA ?_ _)); refine blk_far ?_ NB205_224.out _; (with_reducible repeat (first | refine zN ?_ _ | refine zD ?_ | refine zA ?_ _)); refine blk_far ?_ NB205_224.out _; (with_reducible repeat (first | refine zN ?_ _ | refine zD ?_ | refine zA ?_ _)); first | exact BK205.out | (simp only [*]; exact BK205.out)⟩
               have n3_ : Aside0 ((((((((((w40.setCell ⟨gb224,0,none⟩ (.int .i64 ((rd_T34 l0_0 x8_2).f0))).setCell ⟨gb224,1,none⟩ (.int .i64 ((rd_T34 l0_0 x8_2).f1))).setCell ⟨gb224,2,none⟩ (.int .i64 ((rd_T34 l0_0 x8_2).f2))).setCell ⟨gb224,3,none⟩ (.int .i64 ((rd_T34 l0_0 x8_2).f3))).setCell ⟨gb224,4,none⟩ (.int .i64 ((rd_T34 l0_0 x8_2).f4))).setCell ⟨gb224,5,none⟩ (.int .i64 ((rd_T34 l0_0 x8_2).f5))).setCell ⟨gb224,6,none⟩ (.bool ((rd_T34 l0_0 x8_2).f6))).setCell ⟨gb224,7,none⟩ (.string ((rd_T34 l0_0 x8_2).f7))).setCell ⟨gb224,8,none⟩ (.slice A223_8 ((rd_T34 l0_0 x8_2).f8).length c223_8)).heap[gb224]? = some (.cells #[.int .i64 ((rd_T34 l0_0 x8_2).f0),.int .i64 ((rd_T34 l0_0 x8_2).f1),.int .i64 ((rd_T34 l0_0 x8_2).f2),.int .i64 ((rd_T34 l0_0 x8_2).f3),.int .i64 ((rd_T34 l0_0 x8_2).f4),.int .i64 ((rd_T34 l0_0 x8_2).f5),.bool ((rd_T34 l0_0 x8_2).f6),.string ((rd_T34 l0_0 x8_2).f7),.slice A223_8 ((rd_T34 l0_0 x8_2).f8).length c223_8] 34 (0,0))) := ⟨by (with_reducible repeat (first | refine zN ?_ _ | refine zD ?_ | refine zA ?_ _)); refine blk_put (cs := #[.int .i64 ((rd_T34 l0_0 x8_2).f0),.int .i64 ((rd_T34 l0_0 x8_2).f1),.int .i64 ((rd_T34 l0_0 x8_2).f2),.int .i64 ((rd_T34 l0_0 x8_2).f3),.int .i64 ((rd_T34 l0_0 x8_2).f4),.int .i64 ((rd_T34 l0_0 x8_2).f5),.bool ((rd_T34 l0_0 x8_2).f6),.string ((rd_T34 l0_0 x8_2).f7),.slice none 0 0]) ?_ 8 _ rfl; (with_reducible repeat (first | refine zN ?_ _ | refine zD ?_ | refine zA ?_ _)); refine blk_put (cs := #[.int .i64 ((rd_T34 l0_0 x8_2).f0),.int .i64 ((rd_T34 l0_0 x8_2).f1),.int .i64 ((rd_T34 l0_0 x8_2).f2),.int .i64 ((rd_T34 l0_0 x8_2).f3),.int .i64 ((rd_T34 l0_0 x8_2).f4),.int .i64 ((rd_T34 l0_0 x8_2).f5),.bool ((rd_T34 l0_0 x8_2).f6),.string (⟨#[]⟩ : ByteArray),.slice none 0 0]) ?_ 7 _ rfl; (with_reducible repeat (first | refine zN ?_ _ | refine zD ?_ | refine zA ?_ _)); refine blk_put (cs := #[.int .i64 ((rd_T34 l0_0 x8_2).f0),.int .i64 ((rd_T34 l0_0 x8_2).f1),.int .i64 ((rd_T34 l0_0 x8_2).f2),.int .i64 ((rd_T34 l0_0 x8_2).f3),.int .i64 ((rd_T34 l0_0 x8_2).f4),.int .i64 ((rd_T34 l0_0 x8_2).f5),.bool false,.string (⟨#[]⟩ : ByteArray),.slice none 0 0]) ?_ 6 _ rfl; (with_reducible repeat (first | refine zN ?_ _ | refine zD ?_ | refine zA ?_ _)); refine blk_put (cs := #[.int .i64 ((rd_T34 l0_0 x8_2).f0),.int .i64 ((rd_T34 l0_0 x8_2).f1),.int .i64 ((rd_T34 l0_0 x8_2).f2),.int .i64 ((rd_T34 l0_0 x8_2).f3),.int .i64 ((rd_T34 l0_0 x8_2).f4),.int .i64 0,.bool false,.string (⟨#[]⟩ : ByteArray),.slice none 0 0]) ?_ 5 _ rfl; (with_reducible repeat (first | refine zN ?_ _ | refine zD ?_ | refine zA ?_ _)); refine blk_put (cs := #[.int .i64 ((rd_T34 l0_0 x8_2).f0),.int .i64 ((rd_T34 l0_0 x8_2).f1),.int .i64 ((rd_T34 l0_0 x8_2).f2),.int .i64 ((rd_T34 l0_0 x8_2).f3),.int .i64 0,.int .i64 0,.bool false,.string (⟨#[]⟩ : ByteArray),.slice none 0 0]) ?_ 4 _ rfl; (with_reducible repeat (first | refine zN ?_ _ | refine zD ?_ | refine zA ?_ _)); refine blk_put (cs := #[.int .i64 ((rd_T34 l0_0 x8_2).f0),.int .i64 ((rd_T34 l0_0 x8_2).f1),.int .i64 ((rd_T34 l0_0 x8_2).f2),.int .i64 0,.int .i64 0,.int .i64 0,.bool false,.string (⟨#[]⟩ : ByteArray),.slice none 0 0]) ?_ 3 _ rfl; (with_reducible repeat (first | refine zN ?_ _ | refine zD ?_ | refine zA ?_ _)); refine blk_put (cs := #[.int .i64 ((rd_T34 l0_0 x8_2).f0),.int .i64 ((rd_T34 l0_0 x8_2).f1),.int .i64 0,.int .i64 0,.int .i64 0,.int .i64 0,.bool false,.string (⟨#[]⟩ : ByteArray),.slice none 0 0]) ?_ 2 _ rfl; (with_reducible repeat (first | refine zN ?_ _ | refine zD ?_ | refine zA ?_ _)); refine blk_put (cs := #[.int .i64 ((rd_T34 l0_0 x8_2).f0),.int .i64 0,.int .i64 0,.int .i64 0,.int .i64 0,.int .i64 0,.bool false,.string (⟨#[]⟩ : ByteArray),.slice none 0 0]) ?_ 1 _ rfl; (with_reducible repeat (first | refine zN ?_ _ | refine zD ?_ | refine zA ?_ _)); refine blk_put (cs := #[.int .i64 0,.int .i64 0,.int .i64 0,.int .i64 0,.int .i64 0,.int .i64 0,.bool false,.string (⟨#[]⟩ : ByteArray),.slice none 0 0]) ?_ 0 _ rfl; (with_reducible repeat (first | refine zN ?_ _ | refine zD ?_ | refine zA ?_ _)); first | exact BK224.out | (simp only [*]; exact BK224.out)⟩
               have n4_ : Aside0 (Below w.heap.size w (((((((((w40.setCell ⟨gb224,0,none⟩ (.int .i64 ((rd_T34 l0_0 x8_2).f0))).setCell ⟨gb224,1,none⟩ (.int .i64 ((rd_T34 l0_0 x8_2).f1))).setCell ⟨gb224,2,none⟩ (.int .i64 ((rd_T34 l0_0 x8_2).f2))).setCell ⟨gb224,3,none⟩ (.int .i64 ((rd_T34 l0_0 x8_2).f3))).setCell ⟨gb224,4,none⟩ (.int .i64 ((rd_T34 l0_0 x8_2).f4))).setCell ⟨gb224,5,none⟩ (.int .i64 ((rd_T34 l0_0 x8_2).f5))).setCell ⟨gb224,6,none⟩ (.bool ((rd_T34 l0_0 x8_2).f6))).setCell ⟨gb224,7,none⟩ (.string ((rd_T34 l0_0 x8_2).f7))).setCell ⟨gb224,8,none⟩ (.slice A223_8 ((rd_T34 l0_0 x8_2).f8).length c223_8))) := ⟨by repeat (first | (with_reducible first | exact HB.out | apply yA | apply yN | apply yD | refine yS ?_ GE205.out | refine yS ?_ GE224.out) | exact HB.out)⟩;(try clear HO_3);(try clear HO_6);(try clear BK205);(try clear BK224);(try clear HB);generalize (((((((((w40.setCell ⟨gb224,0,none⟩ (.int .i64 ((rd_T34 l0_0 x8_2).f0))).setCell ⟨gb224,1,none⟩ (.int .i64 ((rd_T34 l0_0 x8_2).f1))).setCell ⟨gb224,2,none⟩ (.int .i64 ((rd_T34 l0_0 x8_2).f2))).setCell ⟨gb224,3,none⟩ (.int .i64 ((rd_T34 l0_0 x8_2).f3))).setCell ⟨gb224,4,none⟩ (.int .i64 ((rd_T34 l0_0 x8_2).f4))).setCell ⟨gb224,5,none⟩ (.int .i64 ((rd_T34 l0_0 x8_2).f5))).setCell ⟨gb224,6,none⟩ (.bool ((rd_T34 l0_0 x8_2).f6))).setCell ⟨gb224,7,none⟩ (.string ((rd_T34 l0_0 x8_2).f7))).setCell ⟨gb224,8,none⟩ (.slice A223_8 ((rd_T34 l0_0 x8_2).f8).length c223_8)) = w43 at n0_ n1_ n2_ n3_ n4_ ⊢
               have HO_3 := n0_;have HO_6 := n1_;have BK205 := n2_;have BK224 := n3_;have HB := n4_;clear n0_ n1_ n2_ n3_ n4_;by_cases c44 : x8_2 < (x3_1.length : Int)
               ·rw [if_pos c44] at H;have c44b0 : decide (x8_2 < (x3_1.length : Int)) = true := decide_eq_true c44;clear c44;(first | rw [c44b0] | (simp only [i64_w,i32_w]; rw [c44b0]) | skip);by_cases c45 : (rd x3_1 x8_2) > 0
                ·rw [if_pos c45] at H;have c45b0 : decide (0 < (rd x3_1 x8_2)) = true := decide_eq_true c45;clear c45;by_cases c46 : ((rd_T34 l0_0 x8_2).f0) = 0
                 ·rw [if_pos c46] at H;have c46b0 : (((rd_T34 l0_0 x8_2).f0) == 0) = true := beq_iff_eq.mpr c46;have c46b1 : (((rd_T34 l0_0 x8_2).f0) != 0) = false := bne_eq_false_iff_eq.mpr c46;have c46b2 : (((rd_T34 l0_0 x8_2).f0) == 1) = false := beq_eq_false_iff_ne.mpr (by omega);have c46b3 : (((rd_T34 l0_0 x8_2).f0) != 1) = true := bne_iff_ne.mpr (by omega);have c46b4 : (((rd_T34 l0_0 x8_2).f0) == 2) = false := beq_eq_false_iff_ne.mpr (by omega);have c46b5 : (((rd_T34 l0_0 x8_2).f0) != 2) = true := bne_iff_ne.mpr (by omega);clear c46;have H' := Aside0.mk H;clear H;obtain ⟨Ao47,co47,eo47⟩ := Kd.R_slice HO_3.out;subst eo47;have p225 : 0 ≤ (x8_2 : Int) := od_ (by first | (with_reducible assumption) | assumption);have q225 : x8_2 < (x3_1.length : Int) := od_ (by first | (with_reducible assumption) | assumption);obtain ⟨ad225,e225,hx225_0⟩ := Kd.at_int (Kd.R_reads' HO_3.out).2.2 x8_2 p225 q225
                  cases e225
                  replace p225 := eq_true p225;replace q225 := eq_true q225;have hnb48 := NB224_205.out;have hnc48 := NB205_224.out;have hcz49 := pk9 BK224.out
                  try go_wp2
                  repeat (go_quiet (fail); try go_wp2)
                  go_meet
                  case rel => exact ⟨_,(true),(by first | rfl | (simp; done) | (simp [*]; done)),H',⟨by have := HK1.out; have := HK2.out; first | omega | exact Nat.le_refl _⟩,⟨by (with_reducible repeat (first | apply Kd.R_alloc | apply Kd.R_drewN | apply Kd.R_drew)); exact HO_3.out⟩,⟨by (with_reducible repeat (first | apply Kd.R_alloc | apply Kd.R_drewN | apply Kd.R_drew)); exact HO_6.out⟩,⟨by (with_reducible repeat (first | refine zN ?_ _ | refine zD ?_ | refine zA ?_ _)); first | exact BK205.out | (simp only [*]; exact BK205.out)⟩,⟨by (with_reducible repeat (first | refine zN ?_ _ | refine zD ?_ | refine zA ?_ _)); first | exact BK224.out | (simp only [*]; exact BK224.out)⟩,⟨by repeat (first | (with_reducible first | exact HB.out | apply yA | apply yN | apply yD | refine yS ?_ GE205.out | refine yS ?_ GE224.out) | exact HB.out)⟩⟩
                 ·rw [if_neg c46] at H;have c46b0 : (((rd_T34 l0_0 x8_2).f0) == 0) = false := beq_eq_false_iff_ne.mpr c46;have c46b1 : (((rd_T34 l0_0 x8_2).f0) != 0) = true := bne_iff_ne.mpr c46;by_cases c50 : ((rd_T34 l0_0 x8_2).f4) = (rd x3_1 x8_2)
                  ·rw [if_pos c50] at H;have c50b0 : (((rd_T34 l0_0 x8_2).f4) == (rd x3_1 x8_2)) = true := beq_iff_eq.mpr c50;have c50b1 : (((rd_T34 l0_0 x8_2).f4) != (rd x3_1 x8_2)) = false := bne_eq_false_iff_eq.mpr c50;clear c50;by_cases c51 : ((rd_T34 l0_0 x8_2).f0) = 2
                   ·rw [if_pos c51] at H;have c51b0 : (((rd_T34 l0_0 x8_2).f0) == 2) = true := beq_iff_eq.mpr c51;have c51b1 : (((rd_T34 l0_0 x8_2).f0) != 2) = false := bne_eq_false_iff_eq.mpr c51;have c51b2 : (((rd_T34 l0_0 x8_2).f0) == 1) = false := beq_eq_false_iff_ne.mpr (by omega);have c51b3 : (((rd_T34 l0_0 x8_2).f0) != 1) = true := bne_iff_ne.mpr (by omega);clear c51;by_cases c52 : x8_2 < (t219.length : Int)
                    ·rw [if_pos c52] at H;have c52b0 : decide (x8_2 < (t219.length : Int)) = true := decide_eq_true c52;clear c52;obtain ⟨bq53,hbq53⟩ : ∃ b_ : Bool,b_ = (rdOf false t219 x8_2) := ⟨_,rfl⟩;(replace H : (if bq53 = true then (spec_FsOk.j3 k2 x3_1 t219 true x8_2 false l0_0) else (spec_FsOk.j3 k2 x3_1 t219 true x8_2 true l0_0)) = some r := by rw [← hbq53] at H; exact H);have Nbq53 := Aside0.mk hbq53;clear hbq53;by_cases c54 : bq53 = true
                     ·subst c54;(try rw [← Nbq53.out]);(have H1 : (spec_FsOk.j3 k2 x3_1 t219 true x8_2 false l0_0) = some r := by rw [if_pos rfl] at H; exact H);clear H;have H := H1;clear H1;have H' := Aside0.mk H;clear H;obtain ⟨Ao55,co55,eo55⟩ := Kd.R_slice HO_3.out;subst eo55;have p225 : 0 ≤ (x8_2 : Int) := od_ (by first | (with_reducible assumption) | assumption);have q225 : x8_2 < (x3_1.length : Int) := od_ (by first | (with_reducible assumption) | assumption);obtain ⟨ad225,e225,hx225_0⟩ := Kd.at_int (Kd.R_reads' HO_3.out).2.2 x8_2 p225 q225
                      cases e225
                      replace p225 := eq_true p225;replace q225 := eq_true q225;have hnb56 := NB224_205.out;have hnc56 := NB205_224.out;have hcz57 := pk9 BK224.out;have p226 : 0 ≤ (x8_2 : Int) := od_ (by first | (with_reducible assumption) | assumption);have q226 : x8_2 < (x3_1.length : Int) := od_ (by first | (with_reducible assumption) | assumption);obtain ⟨ad226,e226,hx226_0⟩ := Kd.at_int (Kd.R_reads' HO_3.out).2.2 x8_2 p226 q226;obtain rfl : ad225 = ad226 := (by injection e226);replace p226 := eq_true p226;replace q226 := eq_true q226;obtain ⟨Ao58,co58,eo58⟩ := Kd.R_slice HO_6.out;subst eo58;have p227 : 0 ≤ (x8_2 : Int) := od_ (by first | (with_reducible assumption) | assumption);have q227 : x8_2 < (t219.length : Int) := od_ (by first | (with_reducible assumption) | assumption);obtain ⟨ad227,e227,hx227_0⟩ := Kd.at_bool (Kd.R_reads' HO_6.out).2.2 x8_2 p227 q227;(try rw [← Nbq53.out] at hx227_0)
                      cases e227
                      replace p227 := eq_true p227;replace q227 := eq_true q227
                      try go_wp2
                      repeat (go_quiet (fail); try go_wp2)
                      go_meet
                      case rel => (try rw [← Nbq53.out]); exact ⟨_,(false),(by first | rfl | (simp; done) | (simp [*]; done)),H',⟨by have := HK1.out; have := HK2.out; first | omega | exact Nat.le_refl _⟩,⟨by (with_reducible repeat (first | apply Kd.R_alloc | apply Kd.R_drewN | apply Kd.R_drew)); exact HO_3.out⟩,⟨by (with_reducible repeat (first | apply Kd.R_alloc | apply Kd.R_drewN | apply Kd.R_drew)); exact HO_6.out⟩,⟨by (with_reducible repeat (first | refine zN ?_ _ | refine zD ?_ | refine zA ?_ _)); first | exact BK205.out | (simp only [*]; exact BK205.out)⟩,⟨by (with_reducible repeat (first | refine zN ?_ _ | refine zD ?_ | refine zA ?_ _)); first | exact BK224.out | (simp only [*]; exact BK224.out)⟩,⟨by repeat (first | (with_reducible first | exact HB.out | apply yA | apply yN | apply yD | refine yS ?_ GE205.out | refine yS ?_ GE224.out) | exact HB.out)⟩⟩
                     ·replace c54 := Bool.eq_false_iff.mpr c54;subst c54;(try rw [← Nbq53.out]);(have H1 : (spec_FsOk.j3 k2 x3_1 t219 true x8_2 true l0_0) = some r := by rw [if_neg (show ¬ (false = true) by decide)] at H; exact H);clear H;have H := H1;clear H1;have H' := Aside0.mk H;clear H;obtain ⟨Ao59,co59,eo59⟩ := Kd.R_slice HO_3.out;subst eo59;have p225 : 0 ≤ (x8_2 : Int) := od_ (by first | (with_reducible assumption) | assumption);have q225 : x8_2 < (x3_1.length : Int) := od_ (by first | (with_reducible assumption) | assumption);obtain ⟨ad225,e225,hx225_0⟩ := Kd.at_int (Kd.R_reads' HO_3.out).2.2 x8_2 p225 q225
                      cases e225
                      replace p225 := eq_true p225;replace q225 := eq_true q225;have hnb60 := NB224_205.out;have hnc60 := NB205_224.out;have hcz61 := pk9 BK224.out;have p226 : 0 ≤ (x8_2 : Int) := od_ (by first | (with_reducible assumption) | assumption);have q226 : x8_2 < (x3_1.length : Int) := od_ (by first | (with_reducible assumption) | assumption);obtain ⟨ad226,e226,hx226_0⟩ := Kd.at_int (Kd.R_reads' HO_3.out).2.2 x8_2 p226 q226;obtain rfl : ad225 = ad226 := (by injection e226);replace p226 := eq_true p226;replace q226 := eq_true q226;obtain ⟨Ao62,co62,eo62⟩ := Kd.R_slice HO_6.out;subst eo62;have p227 : 0 ≤ (x8_2 : Int) := od_ (by first | (with_reducible assumption) | assumption);have q227 : x8_2 < (t219.length : Int) := od_ (by first | (with_reducible assumption) | assumption);obtain ⟨ad227,e227,hx227_0⟩ := Kd.at_bool (Kd.R_reads' HO_6.out).2.2 x8_2 p227 q227;(try rw [← Nbq53.out] at hx227_0)
                      cases e227
                      replace p227 := eq_true p227;replace q227 := eq_true q227
                      try go_wp2
                      repeat (go_quiet (fail); try go_wp2)
                      go_meet
                      case rel => (try rw [← Nbq53.out]); exact ⟨_,(true),(by first | rfl | (simp; done) | (simp [*]; done)),H',⟨by have := HK1.out; have := HK2.out; first | omega | exact Nat.le_refl _⟩,⟨by (with_reducible repeat (first | apply Kd.R_alloc | apply Kd.R_drewN | apply Kd.R_drew)); exact HO_3.out⟩,⟨by (with_reducible repeat (first | apply Kd.R_alloc | apply Kd.R_drewN | apply Kd.R_drew)); exact HO_6.out⟩,⟨by (with_reducible repeat (first | refine zN ?_ _ | refine zD ?_ | refine zA ?_ _)); first | exact BK205.out | (simp only [*]; exact BK205.out)⟩,⟨by (with_reducible repeat (first | refine zN ?_ _ | refine zD ?_ | refine zA ?_ _)); first | exact BK224.out | (simp only [*]; exact BK224.out)⟩,⟨by repeat (first | (with_reducible first | exact HB.out | apply yA | apply yN | apply yD | refine yS ?_ GE205.out | refine yS ?_ GE224.out) | exact HB.out)⟩⟩
                    ·rw [if_neg c52] at H
                     exact absurd H (by simp)
                   ·rw [if_neg c51] at H;have c51b0 : (((rd_T34 l0_0 x8_2).f0) == 2) = false := beq_eq_false_iff_ne.mpr c51;have c51b1 : (((rd_T34 l0_0 x8_2).f0) != 2) = true := bne_iff_ne.mpr c51;by_cases c63 : ((rd_T34 l0_0 x8_2).f0) = 1
                    ·rw [if_pos c63] at H;have c63b0 : (((rd_T34 l0_0 x8_2).f0) == 1) = true := beq_iff_eq.mpr c63;have c63b1 : (((rd_T34 l0_0 x8_2).f0) != 1) = false := bne_eq_false_iff_eq.mpr c63;have c63b2 : (((rd_T34 l0_0 x8_2).f0) == 2) = false := beq_eq_false_iff_ne.mpr (by omega);have c63b3 : (((rd_T34 l0_0 x8_2).f0) != 2) = true := bne_iff_ne.mpr (by omega);clear c63;by_cases c64 : ((rd_T34 l0_0 x8_2).f4) = 0
                     ·rw [if_pos c64] at H;have c64b0 : (((rd_T34 l0_0 x8_2).f4) == 0) = true := beq_iff_eq.mpr c64;have c64b1 : (((rd_T34 l0_0 x8_2).f4) != 0) = false := bne_eq_false_iff_eq.mpr c64;have c64b2 : (((rd_T34 l0_0 x8_2).f4) == 1) = false := beq_eq_false_iff_ne.mpr (by omega);have c64b3 : (((rd_T34 l0_0 x8_2).f4) != 1) = true := bne_iff_ne.mpr (by omega);have c64b4 : (((rd_T34 l0_0 x8_2).f4) == 2) = false := beq_eq_false_iff_ne.mpr (by omega);have c64b5 : (((rd_T34 l0_0 x8_2).f4) != 2) = true := bne_iff_ne.mpr (by omega);clear c64;have H' := Aside0.mk H;clear H;obtain ⟨Ao65,co65,eo65⟩ := Kd.R_slice HO_3.out;subst eo65;have p225 : 0 ≤ (x8_2 : Int) := od_ (by first | (with_reducible assumption) | assumption);have q225 : x8_2 < (x3_1.length : Int) := od_ (by first | (with_reducible assumption) | assumption);obtain ⟨ad225,e225,hx225_0⟩ := Kd.at_int (Kd.R_reads' HO_3.out).2.2 x8_2 p225 q225
                      cases e225
                      replace p225 := eq_true p225;replace q225 := eq_true q225;have hnb66 := NB224_205.out;have hnc66 := NB205_224.out;have hcz67 := pk9 BK224.out;have p226 : 0 ≤ (x8_2 : Int) := od_ (by first | (with_reducible assumption) | assumption);have q226 : x8_2 < (x3_1.length : Int) := od_ (by first | (with_reducible assumption) | assumption);obtain ⟨ad226,e226,hx226_0⟩ := Kd.at_int (Kd.R_reads' HO_3.out).2.2 x8_2 p226 q226;obtain rfl : ad225 = ad226 := (by injection e226);replace p226 := eq_true p226;replace q226 := eq_true q226
                      try go_wp2
                      repeat (go_quiet (fail); try go_wp2)
                      go_meet
                      case rel => exact ⟨_,((((rd_T34 l0_0 x8_2).f5) == 0)),(by first | rfl | (simp; done) | (simp [*]; done)),H',⟨by have := HK1.out; have := HK2.out; first | omega | exact Nat.le_refl _⟩,⟨by (with_reducible repeat (first | apply Kd.R_alloc | apply Kd.R_drewN | apply Kd.R_drew)); exact HO_3.out⟩,⟨by (with_reducible repeat (first | apply Kd.R_alloc | apply Kd.R_drewN | apply Kd.R_drew)); exact HO_6.out⟩,⟨by (with_reducible repeat (first | refine zN ?_ _ | refine zD ?_ | refine zA ?_ _)); first | exact BK205.out | (simp only [*]; exact BK205.out)⟩,⟨by (with_reducible repeat (first | refine zN ?_ _ | refine zD ?_ | refine zA ?_ _)); first | exact BK224.out | (simp only [*]; exact BK224.out)⟩,⟨by repeat (first | (with_reducible first | exact HB.out | apply yA | apply yN | apply yD | refine yS ?_ GE205.out | refine yS ?_ GE224.out) | exact HB.out)⟩⟩
                     ·rw [if_neg c64] at H;have c64b0 : (((rd_T34 l0_0 x8_2).f4) == 0) = false := beq_eq_false_iff_ne.mpr c64;have c64b1 : (((rd_T34 l0_0 x8_2).f4) != 0) = true := bne_iff_ne.mpr c64;have H' := Aside0.mk H;clear H;obtain ⟨Ao68,co68,eo68⟩ := Kd.R_slice HO_3.out;subst eo68;have p225 : 0 ≤ (x8_2 : Int) := od_ (by first | (with_reducible assumption) | assumption);have q225 : x8_2 < (x3_1.length : Int) := od_ (by first | (with_reducible assumption) | assumption);obtain ⟨ad225,e225,hx225_0⟩ := Kd.at_int (Kd.R_reads' HO_3.out).2.2 x8_2 p225 q225
                      cases e225
                      replace p225 := eq_true p225;replace q225 := eq_true q225;have hnb69 := NB224_205.out;have hnc69 := NB205_224.out;have hcz70 := pk9 BK224.out;have p226 : 0 ≤ (x8_2 : Int) := od_ (by first | (with_reducible assumption) | assumption);have q226 : x8_2 < (x3_1.length : Int) := od_ (by first | (with_reducible assumption) | assumption);obtain ⟨ad226,e226,hx226_0⟩ := Kd.at_int (Kd.R_reads' HO_3.out).2.2 x8_2 p226 q226;obtain rfl : ad225 = ad226 := (by injection e226);replace p226 := eq_true p226;replace q226 := eq_true q226
                      try go_wp2
                      repeat (go_quiet (fail); try go_wp2)
                      go_meet
                      case rel => exact ⟨_,(false),(by first | rfl | (simp; done) | (simp [*]; done)),H',⟨by have := HK1.out; have := HK2.out; first | omega | exact Nat.le_refl _⟩,⟨by (with_reducible repeat (first | apply Kd.R_alloc | apply Kd.R_drewN | apply Kd.R_drew)); exact HO_3.out⟩,⟨by (with_reducible repeat (first | apply Kd.R_alloc | apply Kd.R_drewN | apply Kd.R_drew)); exact HO_6.out⟩,⟨by (with_reducible repeat (first | refine zN ?_ _ | refine zD ?_ | refine zA ?_ _)); first | exact BK205.out | (simp only [*]; exact BK205.out)⟩,⟨by (with_reducible repeat (first | refine zN ?_ _ | refine zD ?_ | refine zA ?_ _)); first | exact BK224.out | (simp only [*]; exact BK224.out)⟩,⟨by repeat (first | (with_reducible first | exact HB.out | apply yA | apply yN | apply yD | refine yS ?_ GE205.out | refine yS ?_ GE224.out) | exact HB.out)⟩⟩
                    ·rw [if_neg c63] at H;have c63b0 : (((rd_T34 l0_0 x8_2).f0) == 1) = false := beq_eq_false_iff_ne.mpr c63;have c63b1 : (((rd_T34 l0_0 x8_2).f0) != 1) = true := bne_iff_ne.mpr c63;have H' := Aside0.mk H;clear H;obtain ⟨Ao71,co71,eo71⟩ := Kd.R_slice HO_3.out;subst eo71;have p225 : 0 ≤ (x8_2 : Int) := od_ (by first | (with_reducible assumption) | assumption);have q225 : x8_2 < (x3_1.length : Int) := od_ (by first | (with_reducible assumption) | assumption);obtain ⟨ad225,e225,hx225_0⟩ := Kd.at_int (Kd.R_reads' HO_3.out).2.2 x8_2 p225 q225
                     cases e225
                     replace p225 := eq_true p225;replace q225 := eq_true q225;have hnb72 := NB224_205.out;have hnc72 := NB205_224.out;have hcz73 := pk9 BK224.out;have p226 : 0 ≤ (x8_2 : Int) := od_ (by first | (with_reducible assumption) | assumption);have q226 : x8_2 < (x3_1.length : Int) := od_ (by first | (with_reducible assumption) | assumption);obtain ⟨ad226,e226,hx226_0⟩ := Kd.at_int (Kd.R_reads' HO_3.out).2.2 x8_2 p226 q226;obtain rfl : ad225 = ad226 := (by injection e226);replace p226 := eq_true p226;replace q226 := eq_true q226
                     try go_wp2
                     repeat (go_quiet (fail); try go_wp2)
                     go_meet
                     case rel => exact ⟨_,(false),(by first | rfl | (simp; done) | (simp [*]; done)),H',⟨by have := HK1.out; have := HK2.out; first | omega | exact Nat.le_refl _⟩,⟨by (with_reducible repeat (first | apply Kd.R_alloc | apply Kd.R_drewN | apply Kd.R_drew)); exact HO_3.out⟩,⟨by (with_reducible repeat (first | apply Kd.R_alloc | apply Kd.R_drewN | apply Kd.R_drew)); exact HO_6.out⟩,⟨by (with_reducible repeat (first | refine zN ?_ _ | refine zD ?_ | refine zA ?_ _)); first | exact BK205.out | (simp only [*]; exact BK205.out)⟩,⟨by (with_reducible repeat (first | refine zN ?_ _ | refine zD ?_ | refine zA ?_ _)); first | exact BK224.out | (simp only [*]; exact BK224.out)⟩,⟨by repeat (first | (with_reducible first | exact HB.out | apply yA | apply yN | apply yD | refine yS ?_ GE205.out | refine yS ?_ GE224.out) | exact HB.out)⟩⟩
                  ·rw [if_neg c50] at H;have c50b0 : (((rd_T34 l0_0 x8_2).f4) == (rd x3_1 x8_2)) = false := beq_eq_false_iff_ne.mpr c50;have c50b1 : (((rd_T34 l0_0 x8_2).f4) != (rd x3_1 x8_2)) = true := bne_iff_ne.mpr c50;have H' := Aside0.mk H;clear H;obtain ⟨Ao74,co74,eo74⟩ := Kd.R_slice HO_3.out;subst eo74;have p225 : 0 ≤ (x8_2 : Int) := od_ (by first | (with_reducible assumption) | assumption);have q225 : x8_2 < (x3_1.length : Int) := od_ (by first | (with_reducible assumption) | assumption);obtain ⟨ad225,e225,hx225_0⟩ := Kd.at_int (Kd.R_reads' HO_3.out).2.2 x8_2 p225 q225
                   cases e225
                   replace p225 := eq_true p225;replace q225 := eq_true q225;have hnb75 := NB224_205.out;have hnc75 := NB205_224.out;have hcz76 := pk9 BK224.out;have p226 : 0 ≤ (x8_2 : Int) := od_ (by first | (with_reducible assumption) | assumption);have q226 : x8_2 < (x3_1.length : Int) := od_ (by first | (with_reducible assumption) | assumption);obtain ⟨ad226,e226,hx226_0⟩ := Kd.at_int (Kd.R_reads' HO_3.out).2.2 x8_2 p226 q226;obtain rfl : ad225 = ad226 := (by injection e226);replace p226 := eq_true p226;replace q226 := eq_true q226
                   try go_wp2
                   repeat (go_quiet (fail); try go_wp2)
                   go_meet
                   case rel => exact ⟨_,(true),(by first | rfl | (simp; done) | (simp [*]; done)),H',⟨by have := HK1.out; have := HK2.out; first | omega | exact Nat.le_refl _⟩,⟨by (with_reducible repeat (first | apply Kd.R_alloc | apply Kd.R_drewN | apply Kd.R_drew)); exact HO_3.out⟩,⟨by (with_reducible repeat (first | apply Kd.R_alloc | apply Kd.R_drewN | apply Kd.R_drew)); exact HO_6.out⟩,⟨by (with_reducible repeat (first | refine zN ?_ _ | refine zD ?_ | refine zA ?_ _)); first | exact BK205.out | (simp only [*]; exact BK205.out)⟩,⟨by (with_reducible repeat (first | refine zN ?_ _ | refine zD ?_ | refine zA ?_ _)); first | exact BK224.out | (simp only [*]; exact BK224.out)⟩,⟨by repeat (first | (with_reducible first | exact HB.out | apply yA | apply yN | apply yD | refine yS ?_ GE205.out | refine yS ?_ GE224.out) | exact HB.out)⟩⟩
                ·rw [if_neg c45] at H;have c45b0 : decide (0 < (rd x3_1 x8_2)) = false := decide_eq_false c45;clear c45;by_cases c77 : ((rd_T34 l0_0 x8_2).f0) = 0
                 ·rw [if_pos c77] at H;have c77b0 : (((rd_T34 l0_0 x8_2).f0) == 0) = true := beq_iff_eq.mpr c77;have c77b1 : (((rd_T34 l0_0 x8_2).f0) != 0) = false := bne_eq_false_iff_eq.mpr c77;have c77b2 : (((rd_T34 l0_0 x8_2).f0) == 1) = false := beq_eq_false_iff_ne.mpr (by omega);have c77b3 : (((rd_T34 l0_0 x8_2).f0) != 1) = true := bne_iff_ne.mpr (by omega);have c77b4 : (((rd_T34 l0_0 x8_2).f0) == 2) = false := beq_eq_false_iff_ne.mpr (by omega);have c77b5 : (((rd_T34 l0_0 x8_2).f0) != 2) = true := bne_iff_ne.mpr (by omega);clear c77;have H' := Aside0.mk H;clear H;obtain ⟨Ao78,co78,eo78⟩ := Kd.R_slice HO_3.out;subst eo78;have p225 : 0 ≤ (x8_2 : Int) := od_ (by first | (with_reducible assumption) | assumption);have q225 : x8_2 < (x3_1.length : Int) := od_ (by first | (with_reducible assumption) | assumption);obtain ⟨ad225,e225,hx225_0⟩ := Kd.at_int (Kd.R_reads' HO_3.out).2.2 x8_2 p225 q225
                  cases e225
                  replace p225 := eq_true p225;replace q225 := eq_true q225;have hnb79 := NB224_205.out;have hnc79 := NB205_224.out;have hcz80 := pk9 BK224.out
                  try go_wp2
                  repeat (go_quiet (fail); try go_wp2)
                  go_meet
                  case rel => exact ⟨_,(false),(by first | rfl | (simp; done) | (simp [*]; done)),H',⟨by have := HK1.out; have := HK2.out; first | omega | exact Nat.le_refl _⟩,⟨by (with_reducible repeat (first | apply Kd.R_alloc | apply Kd.R_drewN | apply Kd.R_drew)); exact HO_3.out⟩,⟨by (with_reducible repeat (first | apply Kd.R_alloc | apply Kd.R_drewN | apply Kd.R_drew)); exact HO_6.out⟩,⟨by (with_reducible repeat (first | refine zN ?_ _ | refine zD ?_ | refine zA ?_ _)); first | exact BK205.out | (simp only [*]; exact BK205.out)⟩,⟨by (with_reducible repeat (first | refine zN ?_ _ | refine zD ?_ | refine zA ?_ _)); first | exact BK224.out | (simp only [*]; exact BK224.out)⟩,⟨by repeat (first | (with_reducible first | exact HB.out | apply yA | apply yN | apply yD | refine yS ?_ GE205.out | refine yS ?_ GE224.out) | exact HB.out)⟩⟩
                 ·rw [if_neg c77] at H;have c77b0 : (((rd_T34 l0_0 x8_2).f0) == 0) = false := beq_eq_false_iff_ne.mpr c77;have c77b1 : (((rd_T34 l0_0 x8_2).f0) != 0) = true := bne_iff_ne.mpr c77;by_cases c81 : ((rd_T34 l0_0 x8_2).f4) = (rd x3_1 x8_2)
                  ·rw [if_pos c81] at H;have c81b0 : (((rd_T34 l0_0 x8_2).f4) == (rd x3_1 x8_2)) = true := beq_iff_eq.mpr c81;have c81b1 : (((rd_T34 l0_0 x8_2).f4) != (rd x3_1 x8_2)) = false := bne_eq_false_iff_eq.mpr c81;clear c81;by_cases c82 : ((rd_T34 l0_0 x8_2).f0) = 2
                   ·rw [if_pos c82] at H;have c82b0 : (((rd_T34 l0_0 x8_2).f0) == 2) = true := beq_iff_eq.mpr c82;have c82b1 : (((rd_T34 l0_0 x8_2).f0) != 2) = false := bne_eq_false_iff_eq.mpr c82;have c82b2 : (((rd_T34 l0_0 x8_2).f0) == 1) = false := beq_eq_false_iff_ne.mpr (by omega);have c82b3 : (((rd_T34 l0_0 x8_2).f0) != 1) = true := bne_iff_ne.mpr (by omega);clear c82;by_cases c83 : x8_2 < (t219.length : Int)
                    ·rw [if_pos c83] at H;have c83b0 : decide (x8_2 < (t219.length : Int)) = true := decide_eq_true c83;clear c83;obtain ⟨bq84,hbq84⟩ : ∃ b_ : Bool,b_ = (rdOf false t219 x8_2) := ⟨_,rfl⟩;(replace H : (if bq84 = true then (spec_FsOk.j3 k2 x3_1 t219 true x8_2 false l0_0) else (spec_FsOk.j3 k2 x3_1 t219 true x8_2 true l0_0)) = some r := by rw [← hbq84] at H; exact H);have Nbq84 := Aside0.mk hbq84;clear hbq84;by_cases c85 : bq84 = true
                     ·subst c85;(try rw [← Nbq84.out]);(have H1 : (spec_FsOk.j3 k2 x3_1 t219 true x8_2 false l0_0) = some r := by rw [if_pos rfl] at H; exact H);clear H;have H := H1;clear H1;have H' := Aside0.mk H;clear H;obtain ⟨Ao86,co86,eo86⟩ := Kd.R_slice HO_3.out;subst eo86;have p225 : 0 ≤ (x8_2 : Int) := od_ (by first | (with_reducible assumption) | assumption);have q225 : x8_2 < (x3_1.length : Int) := od_ (by first | (with_reducible assumption) | assumption);obtain ⟨ad225,e225,hx225_0⟩ := Kd.at_int (Kd.R_reads' HO_3.out).2.2 x8_2 p225 q225
                      cases e225
                      replace p225 := eq_true p225;replace q225 := eq_true q225;have hnb87 := NB224_205.out;have hnc87 := NB205_224.out;have hcz88 := pk9 BK224.out;have p228 : 0 ≤ (x8_2 : Int) := od_ (by first | (with_reducible assumption) | assumption);have q228 : x8_2 < (x3_1.length : Int) := od_ (by first | (with_reducible assumption) | assumption);obtain ⟨ad228,e228,hx228_0⟩ := Kd.at_int (Kd.R_reads' HO_3.out).2.2 x8_2 p228 q228;obtain rfl : ad225 = ad228 := (by injection e228);replace p228 := eq_true p228;replace q228 := eq_true q228;obtain ⟨Ao89,co89,eo89⟩ := Kd.R_slice HO_6.out;subst eo89;have p229 : 0 ≤ (x8_2 : Int) := od_ (by first | (with_reducible assumption) | assumption);have q229 : x8_2 < (t219.length : Int) := od_ (by first | (with_reducible assumption) | assumption);obtain ⟨ad229,e229,hx229_0⟩ := Kd.at_bool (Kd.R_reads' HO_6.out).2.2 x8_2 p229 q229;(try rw [← Nbq84.out] at hx229_0)
                      cases e229
                      replace p229 := eq_true p229;replace q229 := eq_true q229
                      try go_wp2
                      repeat (go_quiet (fail); try go_wp2)
                      go_meet
                      case rel => (try rw [← Nbq84.out]); exact ⟨_,(false),(by first | rfl | (simp; done) | (simp [*]; done)),H',⟨by have := HK1.out; have := HK2.out; first | omega | exact Nat.le_refl _⟩,⟨by (with_reducible repeat (first | apply Kd.R_alloc | apply Kd.R_drewN | apply Kd.R_drew)); exact HO_3.out⟩,⟨by (with_reducible repeat (first | apply Kd.R_alloc | apply Kd.R_drewN | apply Kd.R_drew)); exact HO_6.out⟩,⟨by (with_reducible repeat (first | refine zN ?_ _ | refine zD ?_ | refine zA ?_ _)); first | exact BK205.out | (simp only [*]; exact BK205.out)⟩,⟨by (with_reducible repeat (first | refine zN ?_ _ | refine zD ?_ | refine zA ?_ _)); first | exact BK224.out | (simp only [*]; exact BK224.out)⟩,⟨by repeat (first | (with_reducible first | exact HB.out | apply yA | apply yN | apply yD | refine yS ?_ GE205.out | refine yS ?_ GE224.out) | exact HB.out)⟩⟩
                     ·replace c85 := Bool.eq_false_iff.mpr c85;subst c85;(try rw [← Nbq84.out]);(have H1 : (spec_FsOk.j3 k2 x3_1 t219 true x8_2 true l0_0) = some r := by rw [if_neg (show ¬ (false = true) by decide)] at H; exact H);clear H;have H := H1;clear H1;have H' := Aside0.mk H;clear H;obtain ⟨Ao90,co90,eo90⟩ := Kd.R_slice HO_3.out;subst eo90;have p225 : 0 ≤ (x8_2 : Int) := od_ (by first | (with_reducible assumption) | assumption);have q225 : x8_2 < (x3_1.length : Int) := od_ (by first | (with_reducible assumption) | assumption);obtain ⟨ad225,e225,hx225_0⟩ := Kd.at_int (Kd.R_reads' HO_3.out).2.2 x8_2 p225 q225
                      cases e225
                      replace p225 := eq_true p225;replace q225 := eq_true q225;have hnb91 := NB224_205.out;have hnc91 := NB205_224.out;have hcz92 := pk9 BK224.out;have p228 : 0 ≤ (x8_2 : Int) := od_ (by first | (with_reducible assumption) | assumption);have q228 : x8_2 < (x3_1.length : Int) := od_ (by first | (with_reducible assumption) | assumption);obtain ⟨ad228,e228,hx228_0⟩ := Kd.at_int (Kd.R_reads' HO_3.out).2.2 x8_2 p228 q228;obtain rfl : ad225 = ad228 := (by injection e228);replace p228 := eq_true p228;replace q228 := eq_true q228;obtain ⟨Ao93,co93,eo93⟩ := Kd.R_slice HO_6.out;subst eo93;have p229 : 0 ≤ (x8_2 : Int) := od_ (by first | (with_reducible assumption) | assumption);have q229 : x8_2 < (t219.length : Int) := od_ (by first | (with_reducible assumption) | assumption);obtain ⟨ad229,e229,hx229_0⟩ := Kd.at_bool (Kd.R_reads' HO_6.out).2.2 x8_2 p229 q229;(try rw [← Nbq84.out] at hx229_0)
                      cases e229
                      replace p229 := eq_true p229;replace q229 := eq_true q229
                      try go_wp2
                      repeat (go_quiet (fail); try go_wp2)
                      go_meet
                      case rel => (try rw [← Nbq84.out]); exact ⟨_,(true),(by first | rfl | (simp; done) | (simp [*]; done)),H',⟨by have := HK1.out; have := HK2.out; first | omega | exact Nat.le_refl _⟩,⟨by (with_reducible repeat (first | apply Kd.R_alloc | apply Kd.R_drewN | apply Kd.R_drew)); exact HO_3.out⟩,⟨by (with_reducible repeat (first | apply Kd.R_alloc | apply Kd.R_drewN | apply Kd.R_drew)); exact HO_6.out⟩,⟨by (with_reducible repeat (first | refine zN ?_ _ | refine zD ?_ | refine zA ?_ _)); first | exact BK205.out | (simp only [*]; exact BK205.out)⟩,⟨by (with_reducible repeat (first | refine zN ?_ _ | refine zD ?_ | refine zA ?_ _)); first | exact BK224.out | (simp only [*]; exact BK224.out)⟩,⟨by repeat (first | (with_reducible first | exact HB.out | apply yA | apply yN | apply yD | refine yS ?_ GE205.out | refine yS ?_ GE224.out) | exact HB.out)⟩⟩
                    ·rw [if_neg c83] at H
                     exact absurd H (by simp)
                   ·rw [if_neg c82] at H;have c82b0 : (((rd_T34 l0_0 x8_2).f0) == 2) = false := beq_eq_false_iff_ne.mpr c82;have c82b1 : (((rd_T34 l0_0 x8_2).f0) != 2) = true := bne_iff_ne.mpr c82;by_cases c94 : ((rd_T34 l0_0 x8_2).f0) = 1
                    ·rw [if_pos c94] at H;have c94b0 : (((rd_T34 l0_0 x8_2).f0) == 1) = true := beq_iff_eq.mpr c94;have c94b1 : (((rd_T34 l0_0 x8_2).f0) != 1) = false := bne_eq_false_iff_eq.mpr c94;have c94b2 : (((rd_T34 l0_0 x8_2).f0) == 2) = false := beq_eq_false_iff_ne.mpr (by omega);have c94b3 : (((rd_T34 l0_0 x8_2).f0) != 2) = true := bne_iff_ne.mpr (by omega);clear c94;by_cases c95 : ((rd_T34 l0_0 x8_2).f4) = 0
                     ·rw [if_pos c95] at H;have c95b0 : (((rd_T34 l0_0 x8_2).f4) == 0) = true := beq_iff_eq.mpr c95;have c95b1 : (((rd_T34 l0_0 x8_2).f4) != 0) = false := bne_eq_false_iff_eq.mpr c95;have c95b2 : (((rd_T34 l0_0 x8_2).f4) == 1) = false := beq_eq_false_iff_ne.mpr (by omega);have c95b3 : (((rd_T34 l0_0 x8_2).f4) != 1) = true := bne_iff_ne.mpr (by omega);have c95b4 : (((rd_T34 l0_0 x8_2).f4) == 2) = false := beq_eq_false_iff_ne.mpr (by omega);have c95b5 : (((rd_T34 l0_0 x8_2).f4) != 2) = true := bne_iff_ne.mpr (by omega);clear c95;have H' := Aside0.mk H;clear H;obtain ⟨Ao96,co96,eo96⟩ := Kd.R_slice HO_3.out;subst eo96;have p225 : 0 ≤ (x8_2 : Int) := od_ (by first | (with_reducible assumption) | assumption);have q225 : x8_2 < (x3_1.length : Int) := od_ (by first | (with_reducible assumption) | assumption);obtain ⟨ad225,e225,hx225_0⟩ := Kd.at_int (Kd.R_reads' HO_3.out).2.2 x8_2 p225 q225
                      cases e225
                      replace p225 := eq_true p225;replace q225 := eq_true q225;have hnb97 := NB224_205.out;have hnc97 := NB205_224.out;have hcz98 := pk9 BK224.out;have p228 : 0 ≤ (x8_2 : Int) := od_ (by first | (with_reducible assumption) | assumption);have q228 : x8_2 < (x3_1.length : Int) := od_ (by first | (with_reducible assumption) | assumption);obtain ⟨ad228,e228,hx228_0⟩ := Kd.at_int (Kd.R_reads' HO_3.out).2.2 x8_2 p228 q228;obtain rfl : ad225 = ad228 := (by injection e228);replace p228 := eq_true p228;replace q228 := eq_true q228
                      try go_wp2
                      repeat (go_quiet (fail); try go_wp2)
                      go_meet
                      case rel => exact ⟨_,((((rd_T34 l0_0 x8_2).f5) == 0)),(by first | rfl | (simp; done) | (simp [*]; done)),H',⟨by have := HK1.out; have := HK2.out; first | omega | exact Nat.le_refl _⟩,⟨by (with_reducible repeat (first | apply Kd.R_alloc | apply Kd.R_drewN | apply Kd.R_drew)); exact HO_3.out⟩,⟨by (with_reducible repeat (first | apply Kd.R_alloc | apply Kd.R_drewN | apply Kd.R_drew)); exact HO_6.out⟩,⟨by (with_reducible repeat (first | refine zN ?_ _ | refine zD ?_ | refine zA ?_ _)); first | exact BK205.out | (simp only [*]; exact BK205.out)⟩,⟨by (with_reducible repeat (first | refine zN ?_ _ | refine zD ?_ | refine zA ?_ _)); first | exact BK224.out | (simp only [*]; exact BK224.out)⟩,⟨by repeat (first | (with_reducible first | exact HB.out | apply yA | apply yN | apply yD | refine yS ?_ GE205.out | refine yS ?_ GE224.out) | exact HB.out)⟩⟩
                     ·rw [if_neg c95] at H;have c95b0 : (((rd_T34 l0_0 x8_2).f4) == 0) = false := beq_eq_false_iff_ne.mpr c95;have c95b1 : (((rd_T34 l0_0 x8_2).f4) != 0) = true := bne_iff_ne.mpr c95;have H' := Aside0.mk H;clear H;obtain ⟨Ao99,co99,eo99⟩ := Kd.R_slice HO_3.out;subst eo99;have p225 : 0 ≤ (x8_2 : Int) := od_ (by first | (with_reducible assumption) | assumption);have q225 : x8_2 < (x3_1.length : Int) := od_ (by first | (with_reducible assumption) | assumption);obtain ⟨ad225,e225,hx225_0⟩ := Kd.at_int (Kd.R_reads' HO_3.out).2.2 x8_2 p225 q225
                      cases e225
                      replace p225 := eq_true p225;replace q225 := eq_true q225;have hnb100 := NB224_205.out;have hnc100 := NB205_224.out;have hcz101 := pk9 BK224.out;have p228 : 0 ≤ (x8_2 : Int) := od_ (by first | (with_reducible assumption) | assumption);have q228 : x8_2 < (x3_1.length : Int) := od_ (by first | (with_reducible assumption) | assumption);obtain ⟨ad228,e228,hx228_0⟩ := Kd.at_int (Kd.R_reads' HO_3.out).2.2 x8_2 p228 q228;obtain rfl : ad225 = ad228 := (by injection e228);replace p228 := eq_true p228;replace q228 := eq_true q228
                      try go_wp2
                      repeat (go_quiet (fail); try go_wp2)
                      go_meet
                      case rel => exact ⟨_,(false),(by first | rfl | (simp; done) | (simp [*]; done)),H',⟨by have := HK1.out; have := HK2.out; first | omega | exact Nat.le_refl _⟩,⟨by (with_reducible repeat (first | apply Kd.R_alloc | apply Kd.R_drewN | apply Kd.R_drew)); exact HO_3.out⟩,⟨by (with_reducible repeat (first | apply Kd.R_alloc | apply Kd.R_drewN | apply Kd.R_drew)); exact HO_6.out⟩,⟨by (with_reducible repeat (first | refine zN ?_ _ | refine zD ?_ | refine zA ?_ _)); first | exact BK205.out | (simp only [*]; exact BK205.out)⟩,⟨by (with_reducible repeat (first | refine zN ?_ _ | refine zD ?_ | refine zA ?_ _)); first | exact BK224.out | (simp only [*]; exact BK224.out)⟩,⟨by repeat (first | (with_reducible first | exact HB.out | apply yA | apply yN | apply yD | refine yS ?_ GE205.out | refine yS ?_ GE224.out) | exact HB.out)⟩⟩
                    ·rw [if_neg c94] at H;have c94b0 : (((rd_T34 l0_0 x8_2).f0) == 1) = false := beq_eq_false_iff_ne.mpr c94;have c94b1 : (((rd_T34 l0_0 x8_2).f0) != 1) = true := bne_iff_ne.mpr c94;have H' := Aside0.mk H;clear H;obtain ⟨Ao102,co102,eo102⟩ := Kd.R_slice HO_3.out;subst eo102;have p225 : 0 ≤ (x8_2 : Int) := od_ (by first | (with_reducible assumption) | assumption);have q225 : x8_2 < (x3_1.length : Int) := od_ (by first | (with_reducible assumption) | assumption);obtain ⟨ad225,e225,hx225_0⟩ := Kd.at_int (Kd.R_reads' HO_3.out).2.2 x8_2 p225 q225
                     cases e225
                     replace p225 := eq_true p225;replace q225 := eq_true q225;have hnb103 := NB224_205.out;have hnc103 := NB205_224.out;have hcz104 := pk9 BK224.out;have p228 : 0 ≤ (x8_2 : Int) := od_ (by first | (with_reducible assumption) | assumption);have q228 : x8_2 < (x3_1.length : Int) := od_ (by first | (with_reducible assumption) | assumption);obtain ⟨ad228,e228,hx228_0⟩ := Kd.at_int (Kd.R_reads' HO_3.out).2.2 x8_2 p228 q228;obtain rfl : ad225 = ad228 := (by injection e228);replace p228 := eq_true p228;replace q228 := eq_true q228
                     try go_wp2
                     repeat (go_quiet (fail); try go_wp2)
                     go_meet
                     case rel => exact ⟨_,(false),(by first | rfl | (simp; done) | (simp [*]; done)),H',⟨by have := HK1.out; have := HK2.out; first | omega | exact Nat.le_refl _⟩,⟨by (with_reducible repeat (first | apply Kd.R_alloc | apply Kd.R_drewN | apply Kd.R_drew)); exact HO_3.out⟩,⟨by (with_reducible repeat (first | apply Kd.R_alloc | apply Kd.R_drewN | apply Kd.R_drew)); exact HO_6.out⟩,⟨by (with_reducible repeat (first | refine zN ?_ _ | refine zD ?_ | refine zA ?_ _)); first | exact BK205.out | (simp only [*]; exact BK205.out)⟩,⟨by (with_reducible repeat (first | refine zN ?_ _ | refine zD ?_ | refine zA ?_ _)); first | exact BK224.out | (simp only [*]; exact BK224.out)⟩,⟨by repeat (first | (with_reducible first | exact HB.out | apply yA | apply yN | apply yD | refine yS ?_ GE205.out | refine yS ?_ GE224.out) | exact HB.out)⟩⟩
                  ·rw [if_neg c81] at H;have c81b0 : (((rd_T34 l0_0 x8_2).f4) == (rd x3_1 x8_2)) = false := beq_eq_false_iff_ne.mpr c81;have c81b1 : (((rd_T34 l0_0 x8_2).f4) != (rd x3_1 x8_2)) = true := bne_iff_ne.mpr c81;have H' := Aside0.mk H;clear H;obtain ⟨Ao105,co105,eo105⟩ := Kd.R_slice HO_3.out;subst eo105;have p225 : 0 ≤ (x8_2 : Int) := od_ (by first | (with_reducible assumption) | assumption);have q225 : x8_2 < (x3_1.length : Int) := od_ (by first | (with_reducible assumption) | assumption);obtain ⟨ad225,e225,hx225_0⟩ := Kd.at_int (Kd.R_reads' HO_3.out).2.2 x8_2 p225 q225
                   cases e225
                   replace p225 := eq_true p225;replace q225 := eq_true q225;have hnb106 := NB224_205.out;have hnc106 := NB205_224.out;have hcz107 := pk9 BK224.out;have p228 : 0 ≤ (x8_2 : Int) := od_ (by first | (with_reducible assumption) | assumption);have q228 : x8_2 < (x3_1.length : Int) := od_ (by first | (with_reducible assumption) | assumption);obtain ⟨ad228,e228,hx228_0⟩ := Kd.at_int (Kd.R_reads' HO_3.out).2.2 x8_2 p228 q228;obtain rfl : ad225 = ad228 := (by injection e228);replace p228 := eq_true p228;replace q228 := eq_true q228
                   try go_wp2
                   repeat (go_quiet (fail); try go_wp2)
                   go_meet
                   case rel => exact ⟨_,(true),(by first | rfl | (simp; done) | (simp [*]; done)),H',⟨by have := HK1.out; have := HK2.out; first | omega | exact Nat.le_refl _⟩,⟨by (with_reducible repeat (first | apply Kd.R_alloc | apply Kd.R_drewN | apply Kd.R_drew)); exact HO_3.out⟩,⟨by (with_reducible repeat (first | apply Kd.R_alloc | apply Kd.R_drewN | apply Kd.R_drew)); exact HO_6.out⟩,⟨by (with_reducible repeat (first | refine zN ?_ _ | refine zD ?_ | refine zA ?_ _)); first | exact BK205.out | (simp only [*]; exact BK205.out)⟩,⟨by (with_reducible repeat (first | refine zN ?_ _ | refine zD ?_ | refine zA ?_ _)); first | exact BK224.out | (simp only [*]; exact BK224.out)⟩,⟨by repeat (first | (with_reducible first | exact HB.out | apply yA | apply yN | apply yD | refine yS ?_ GE205.out | refine yS ?_ GE224.out) | exact HB.out)⟩⟩
               ·rw [if_neg c44] at H
                exact absurd H (by simp)
              case rest =>
               clear HC38;(try clear c1);(try clear c2);(try clear p2);(try clear q2);(try clear hx2);(try clear c4);(try clear c5);(try clear q5);(try clear c6);(try clear c7);(try clear c8);(try clear q8);(try clear c9);(try clear c10);(try clear c22);(try clear p22);(try clear q22);(try clear hx22);(try clear c44);(try clear c45);(try clear c45b0);(try clear c50);(try clear c50b0);(try clear c50b1);(try clear c51);(try clear c51b0);(try clear c51b1);(try clear c52);(try clear q53);(try clear c63);(try clear c63b0);(try clear c63b1);(try clear c63b2);(try clear c64);(try clear c64b0);(try clear c64b1);(try clear c64b2);(try clear c66);(try clear c69);(try clear c72);(try clear c75);(try clear c77);(try clear c77b0);(try clear c77b1);(try clear c77b2);(try clear c79);(try clear c81);(try clear c81b0);(try clear c81b1);(try clear c82);(try clear c82b0);(try clear c82b1);(try clear c82b2);(try clear c83);(try clear c83b0);(try clear q84);(try clear c85);(try clear c87);(try clear c91);(try clear c94);(try clear c94b0);(try clear c94b1);(try clear c94b2);(try clear c95);(try clear c95b0);(try clear c95b1);(try clear c95b2);(try clear c97);(try clear c100);(try clear c103);(try clear c106);(try clear hcz101);(try clear hcz104);(try clear hcz107);(try clear hcz61);(try clear hcz67);(try clear hcz70);(try clear hcz73);(try clear hcz76);(try clear hcz80);(try clear hcz88);(try clear hcz92);(try clear hcz98);(try clear hx225_0);(try clear hx226_0);(try clear hx227_0);(try clear hx228_0);(try clear hx229_0)
               (try clear p225);(try clear p226);(try clear p227);(try clear p228);(try clear p229);(try clear q225);(try clear q226);(try clear q227);(try clear q228);(try clear q229);obtain ⟨kq,x136_37,rfl,HA,HJ37,HO_3,HO_6,BK205,BK224,HB⟩ := hcut
               cases kq with
               | zero => exact absurd HA.out (by simp [spec_FsOk.j3])
               | succ kj37 =>
                have H := HA.out;clear HA
                simp only [spec_FsOk.j3] at H
                by_cases c108 : x136_37 = true
                ·subst c108;(have H1 : (some false) = some r := by rw [if_pos rfl] at H; exact H);clear H;have H := H1;clear H1;obtain rfl := Option.some.inj H
                 simp only [Option.some.injEq,Prod.mk.injEq] at H
                 obtain ⟨rfl⟩ := H
                 go_wp2
                 go_ret
                 exact ⟨by first | rfl | (simp [errW_none,errW_some] <;> rfl) | (simp [*,errW_none,errW_some] <;> rfl),by repeat (first | (with_reducible first | exact HB.out | apply yA | apply yN | apply yD | refine yS ?_ GE205.out | refine yS ?_ GE224.out) | exact HB.out)⟩
                ·replace c108 := Bool.eq_false_iff.mpr c108;subst c108;(have H1 : (spec_FsOk.l2 kj37 x3_1 t219 true (wrap64 (x8_2 + 1)) l0_0) = some r := by rw [if_neg (show ¬ (false = true) by decide)] at H; exact H);clear H;have H := H1;clear H1;have H' := Aside0.mk H;clear H
                 go_wp2
                 go_roundg kj37
                 case measure => have := HK1.out; have := HK2.out; have := HJ37.out; omega
                 case rel => exact ⟨(wrap64 (x8_2 + 1)),(by first | rfl | (simp; done) | (simp [*]; done)),H',⟨by have := HK1.out; have := HK2.out; have := HJ37.out; omega⟩,⟨by (with_reducible repeat (first | apply Kd.R_alloc | apply Kd.R_drewN | apply Kd.R_drew)); exact HO_3.out⟩,⟨by (with_reducible repeat (first | apply Kd.R_alloc | apply Kd.R_drewN | apply Kd.R_drew)); exact HO_6.out⟩,⟨by (with_reducible repeat (first | refine zN ?_ _ | refine zD ?_ | refine zA ?_ _)); first | exact BK205.out | (simp only [*]; exact BK205.out)⟩,⟨by repeat (first | (with_reducible first | exact HB.out | apply yA | apply yN | apply yD | refine yS ?_ GE205.out | refine yS ?_ GE224.out) | exact HB.out)⟩⟩
             ·rw [if_neg c37] at H
              exact absurd H (by simp)
            ·rw [if_neg c36] at H
             exact absurd H (by simp)
           ·replace c35 := Bool.eq_false_iff.mpr c35;subst c35;(have H1 : (some false) = some r := by rw [if_neg (show ¬ (false = true) by decide)] at H; exact H);clear H;have H := H1;clear H1;obtain rfl := Option.some.inj H
            simp only [Option.some.injEq,Prod.mk.injEq] at H
            obtain ⟨rfl⟩ := H
            go_wp2
            go_ret
            exact ⟨by first | rfl | (simp [errW_none,errW_some] <;> rfl) | (simp [*,errW_none,errW_some] <;> rfl),by repeat (first | (with_reducible first | exact HB.out | apply yA | apply yN | apply yD | refine yS ?_ GE205.out) | exact HB.out)⟩
          ·rw [if_neg c34] at H;have c34b0 : decide (x8_2 < 10) = false := decide_eq_false c34;clear c34;obtain rfl := Option.some.inj H
           simp only [Option.some.injEq,Prod.mk.injEq] at H
           obtain ⟨rfl⟩ := H
           go_wp2
           go_ret
           exact ⟨by first | rfl | (simp [errW_none,errW_some] <;> rfl) | (simp [*,errW_none,errW_some] <;> rfl),by repeat (first | (with_reducible first | exact HB.out | apply yA | apply yN | apply yD | refine yS ?_ GE205.out) | exact HB.out)⟩
       ·rw [if_neg c30] at H;have c30b0 : (((rd_T34 l0_0 0).f0) == 2) = false := beq_eq_false_iff_ne.mpr c30;have c30b1 : (((rd_T34 l0_0 0).f0) != 2) = true := bne_iff_ne.mpr c30;obtain rfl := Option.some.inj H
        simp only [Option.some.injEq,Prod.mk.injEq] at H
        obtain ⟨rfl⟩ := H;have hcz109 := pk1 BK205.out;have p218 : 0 ≤ (0 : Int) := (by omega);have q218 : 0 < (l0_0.length : Int) := od_ (by first | (with_reducible assumption) | assumption);obtain ⟨ad218,A218_8,c218_8,e218,hx218_0,hx218_1,hx218_2,hx218_3,hx218_4,hx218_5,hx218_6,hx218_7,hx218_8,hl218_8,hi218_8⟩ := at_T34 HR0_0.out 0 p218 q218
        cases e218
        have qi218 : (0 < l0_0.length) = True := eq_true (by omega);(try rw [show ((0 : Int)).toNat = 0 from rfl] at hx218_0);(try rw [show 0 * 9 = 0 from rfl] at hx218_0);(try rw [Addr.add_zero'] at hx218_0);(try rw [show ((0 : Int)).toNat = 0 from rfl] at hx218_1);(try rw [show 0 * 9 = 0 from rfl] at hx218_1);(try rw [Addr.add_zero'] at hx218_1);(try rw [show ((0 : Int)).toNat = 0 from rfl] at hx218_2);(try rw [show 0 * 9 = 0 from rfl] at hx218_2);(try rw [Addr.add_zero'] at hx218_2);(try rw [show ((0 : Int)).toNat = 0 from rfl] at hx218_3);(try rw [show 0 * 9 = 0 from rfl] at hx218_3);(try rw [Addr.add_zero'] at hx218_3);(try rw [show ((0 : Int)).toNat = 0 from rfl] at hx218_4);(try rw [show 0 * 9 = 0 from rfl] at hx218_4);(try rw [Addr.add_zero'] at hx218_4);(try rw [show ((0 : Int)).toNat = 0 from rfl] at hx218_5);(try rw [show 0 * 9 = 0 from rfl] at hx218_5);(try rw [Addr.add_zero'] at hx218_5);(try rw [show ((0 : Int)).toNat = 0 from rfl] at hx218_6);(try rw [show 0 * 9 = 0 from rfl] at hx218_6);(try rw [Addr.add_zero'] at hx218_6);(try rw [show ((0 : Int)).toNat = 0 from rfl] at hx218_7);(try rw [show 0 * 9 = 0 from rfl] at hx218_7);(try rw [Addr.add_zero'] at hx218_7);(try rw [show ((0 : Int)).toNat = 0 from rfl] at hx218_8);(try rw [show 0 * 9 = 0 from rfl] at hx218_8);(try rw [Addr.add_zero'] at hx218_8);replace hx218_0 := bc_ HB hx218_0;replace hx218_1 := bc_ HB hx218_1;replace hx218_2 := bc_ HB hx218_2
        replace hx218_3 := bc_ HB hx218_3;replace hx218_4 := bc_ HB hx218_4;replace hx218_5 := bc_ HB hx218_5;replace hx218_6 := bc_ HB hx218_6;replace hx218_7 := bc_ HB hx218_7;replace hx218_8 := bc_ HB hx218_8;have HR218_8 := Aside0.mk hi218_8;have HC218_8 := Aside0.mk hl218_8;clear hi218_8 hl218_8;replace p218 := eq_true p218;replace q218 := eq_true q218
        go_wp2
        go_ret
        exact ⟨by first | rfl | (simp [errW_none,errW_some] <;> rfl) | (simp [*,errW_none,errW_some] <;> rfl),by repeat (first | (with_reducible first | exact HB.out | apply yA | apply yN | apply yD | refine yS ?_ GE205.out) | exact HB.out)⟩
      ·rw [if_neg c29] at H
       exact absurd H (by simp)
  ·rw [if_neg c3] at H
   exact absurd H (by simp)
 ·rw [if_neg c2] at H;have c2b0 : ((l0_0.length : Int) == 10) = false := beq_eq_false_iff_ne.mpr c2;have c2b1 : ((l0_0.length : Int) != 10) = true := bne_iff_ne.mpr c2;obtain rfl := Option.some.inj H
  simp only [Option.some.injEq,Prod.mk.injEq] at H
  obtain ⟨rfl⟩ := H
  go_enter Try.func16,Try.ntmps16
  go_wp2_with (first | ((with_reducible refine gate_dst (N := 1) rfl ?_); refine box_event ?hg (N := 1) ?hd (cs := #[.slice A0_0 l0_0.length c0_0]) (t := 27) ?hr ?_; (case hd => rfl); (case hg => rfl); (case hr => first | (go_simp; done) | (go_simp; rfl)); intro gb205 hg w110 hbox hb; have n0_ := Aside0.mk (below_step (by repeat (first | (with_reducible first | exact HB.out | apply yA | apply yN | apply yD) | exact HB.out)) hb); have n1_ := Aside0.mk (hbox); have n2_ := Aside0.mk ((by rw [hg]; exact (below_size (by repeat (first | (with_reducible first | exact HB.out | apply yA | apply yN | apply yD) | exact HB.out))) : w.heap.size ≤ gb205)); have n3_ := Aside0.mk ((by rw [hg]; exact (below_size (by repeat (first | (with_reducible first | exact HB.out | apply yA | apply yN | apply yD) | exact HB.out))) : w.heap.size ≤ gb205)); clear HB; have HB := n0_; have BK205 := n1_; have GW205 := n2_; have GE205 := n3_; clear n0_ n1_ n2_ n3_; clear hb hbox hg; have hcz111 := pk1 BK205.out))
  go_ret
  exact ⟨by first | rfl | (simp [errW_none,errW_some] <;> rfl) | (simp [*,errW_none,errW_some] <;> rfl),by repeat (first | (with_reducible first | exact HB.out | apply yA | apply yN | apply yD | refine yS ?_ GE205.out) | exact HB.out)⟩

end Go.Proofs.Ytpljcphiaajjaaa.XFnExactFsRead
