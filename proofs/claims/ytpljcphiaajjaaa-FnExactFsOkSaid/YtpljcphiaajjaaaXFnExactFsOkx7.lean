-- Written by the kit's printer at the call of wip/tools/xprint.sh (this session's knobs and contracts). Not trusted: Lean checks it.
import Derived.Test.YtpljcphiaajjaaaXFnExactFsOkx0
import Derived.Test.YtpljcphiaajjaaaSqFnExactFsOk
import Derived.Test.YtpljcphiaajjaaaXFnExactFsOkx5
import Derived.Test.YtpljcphiaajjaaaXFnExactFsOkx6
namespace Go.Proofs.Ytpljcphiaajjaaa.XFnExactFsOk
open Go.RowKit Go.Proofs.YtpljcphiaajjaaaW.PrintWords Go.Proofs.YtpljcphiaajjaaaW.PrintLast Go.Proofs.YtpljcphiaajjaaaW.PrintMore
attribute [local go_sem] max2_int min2_int max_two min_two max_three min_three max_four min_four   -- for this text's walks alone
set_option linter.unusedVariables false
set_option linter.unusedSimpArgs false

/-! ### spec_FsOk: function 16 -/
mutual
def spec_FsOk.l0 : Nat → List Int → Int → List (S34) → Option (Bool)
 | 0,_,_,_ => none
 | k + 1,x3,x4,x184000 => if x4 < 10 then (if 0 ≤ x4 then (if x4 < (x184000.length : Int) then ((spec_l7Inode.f k ((rd_T34 x184000 x4).f0) ((rd_T34 x184000 x4).f1) ((rd_T34 x184000 x4).f2) ((rd_T34 x184000 x4).f3) ((rd_T34 x184000 x4).f4) ((rd_T34 x184000 x4).f5) ((rd_T34 x184000 x4).f6) ((rd_T34 x184000 x4).f7) ((rd_T34 x184000 x4).f8)).bind fun t188 => (if t188 = true then (spec_FsOk.l1 k x3 x4 0 x184000) else (some false))) else (none)) else (none)) else (if 0 < (x184000.length : Int) then (if ((rd_T34 x184000 0).f0) = 2 then ((spec_l7Folders.f k x184000).bind fun bt197 => (spec_FsOk.l2 k x3 bt197.1 bt197.2 0 x184000)) else (some false)) else (none))
def spec_FsOk.l1 : Nat → List Int → Int → Int → List (S34) → Option (Bool)
 | 0,_,_,_,_ => none
 | k + 1,x3,x4,x5,x184000 => if 0 ≤ x4 then (if x4 < (x184000.length : Int) then (if x5 < (((rd_T34 x184000 x4).f8).length : Int) then (if 0 ≤ x5 then (if 0 ≤ ((rd_T47 ((rd_T34 x184000 x4).f8) x5).f1) then (if ((rd_T47 ((rd_T34 x184000 x4).f8) x5).f1) < (x3.length : Int) then (spec_FsOk.l1 k (x3.set (((rd_T47 ((rd_T34 x184000 x4).f8) x5).f1) : Int).toNat (wrap64 ((rd x3 ((rd_T47 ((rd_T34 x184000 x4).f8) x5).f1)) + 1))) x4 (wrap64 (x5 + 1)) x184000) else (none)) else (none)) else (none)) else (spec_FsOk.l0 k x3 (wrap64 (x4 + 1)) x184000)) else (none)) else (none)
def spec_FsOk.l2 : Nat → List Int → List Bool → Bool → Int → List (S34) → Option (Bool)
 | 0,_,_,_,_,_ => none
 | k + 1,x3,x6,x7,x8,x184000 => if x8 < 10 then (if x7 = true then (if 0 ≤ x8 then (if x8 < (x184000.length : Int) then (if x8 < (x3.length : Int) then (if (rd x3 x8) > 0 then (if ((rd_T34 x184000 x8).f0) = 0 then (spec_FsOk.j3 k x3 x6 x7 x8 true x184000) else (if ((rd_T34 x184000 x8).f4) = (rd x3 x8) then (if ((rd_T34 x184000 x8).f0) = 2 then (if x8 < (x6.length : Int) then (if rdOf false x6 x8 = true then (spec_FsOk.j3 k x3 x6 x7 x8 false x184000) else (spec_FsOk.j3 k x3 x6 x7 x8 true x184000)) else (none)) else (if ((rd_T34 x184000 x8).f0) = 1 then (if ((rd_T34 x184000 x8).f4) = 0 then (spec_FsOk.j3 k x3 x6 x7 x8 (((rd_T34 x184000 x8).f5) == 0) x184000) else (spec_FsOk.j3 k x3 x6 x7 x8 false x184000)) else (spec_FsOk.j3 k x3 x6 x7 x8 false x184000))) else (spec_FsOk.j3 k x3 x6 x7 x8 true x184000))) else (if ((rd_T34 x184000 x8).f0) = 0 then (spec_FsOk.j3 k x3 x6 x7 x8 false x184000) else (if ((rd_T34 x184000 x8).f4) = (rd x3 x8) then (if ((rd_T34 x184000 x8).f0) = 2 then (if x8 < (x6.length : Int) then (if rdOf false x6 x8 = true then (spec_FsOk.j3 k x3 x6 x7 x8 false x184000) else (spec_FsOk.j3 k x3 x6 x7 x8 true x184000)) else (none)) else (if ((rd_T34 x184000 x8).f0) = 1 then (if ((rd_T34 x184000 x8).f4) = 0 then (spec_FsOk.j3 k x3 x6 x7 x8 (((rd_T34 x184000 x8).f5) == 0) x184000) else (spec_FsOk.j3 k x3 x6 x7 x8 false x184000)) else (spec_FsOk.j3 k x3 x6 x7 x8 false x184000))) else (spec_FsOk.j3 k x3 x6 x7 x8 true x184000)))) else (none)) else (none)) else (none)) else (some x7)) else (some x7)
def spec_FsOk.j3 : Nat → List Int → List Bool → Bool → Int → Bool → List (S34) → Option (Bool)
 | 0,_,_,_,_,_,_ => none
 | k + 1,x3,x6,x7,x8,x136,x184000 => if x136 = true then (some false) else (spec_FsOk.l2 k x3 x6 x7 (wrap64 (x8 + 1)) x184000)
end
def spec_FsOk.f (k : Nat) (l0_0 : List (S34)) : Option (Bool) := if (l0_0.length : Int) = 10 then (if 10 ≤ 35184372088832 then (spec_FsOk.l0 k (List.replicate 10 0) 0 l0_0) else (none)) else (some false)
theorem spec_FsOk.mono_l : ∀ k,(∀ y0 y1 y2,LeO (spec_FsOk.l0 k y0 y1 y2) (spec_FsOk.l0 (k + 1) y0 y1 y2)) ∧ (∀ y0 y1 y2 y3,LeO (spec_FsOk.l1 k y0 y1 y2 y3) (spec_FsOk.l1 (k + 1) y0 y1 y2 y3)) ∧ (∀ y0 y1 y2 y3 y4,LeO (spec_FsOk.l2 k y0 y1 y2 y3 y4) (spec_FsOk.l2 (k + 1) y0 y1 y2 y3 y4)) ∧ (∀ y0 y1 y2 y3 y4 y5,LeO (spec_FsOk.j3 k y0 y1 y2 y3 y4 y5) (spec_FsOk.j3 (k + 1) y0 y1 y2 y3 y4 y5))
 | 0 => ⟨fun _ _ _ r h => by simp [spec_FsOk.l0] at h,fun _ _ _ _ r h => by simp [spec_FsOk.l1] at h,fun _ _ _ _ _ r h => by simp [spec_FsOk.l2] at h,fun _ _ _ _ _ _ r h => by simp [spec_FsOk.j3] at h⟩
 | k + 1 => by
  obtain ⟨ih0,ih1,ih2,ih3⟩ := spec_FsOk.mono_l k
  refine ⟨?_,?_,?_,?_⟩
  ·intro y0 y1 y2
   unfold spec_FsOk.l0
   repeat' first
   | (with_reducible exact ih0 _ _ _)
   | (with_reducible exact ih1 _ _ _ _)
   | (with_reducible exact ih2 _ _ _ _ _)
   | (with_reducible exact ih3 _ _ _ _ _ _)
   | (with_reducible exact spec_l7Folders.mono _ _)
   | (with_reducible exact spec_l7Inode.mono _ _ _ _ _ _ _ _ _ _)
   | (with_reducible exact LeO.refl _)
   | (with_reducible exact LeO.none _)
   | (with_reducible refine LeO.ite ?_ ?_)
   | (with_reducible refine LeO.bind ?_ (fun _ => ?_))
   | exact ih0 _ _ _
   | exact ih1 _ _ _ _
   | exact ih2 _ _ _ _ _
   | exact ih3 _ _ _ _ _ _
   | exact spec_l7Folders.mono _ _
   | exact spec_l7Inode.mono _ _ _ _ _ _ _ _ _ _
   | exact LeO.none _
   | refine LeO.ite ?_ ?_
   | refine LeO.bind ?_ (fun _ => ?_)
  ·intro y0 y1 y2 y3
   unfold spec_FsOk.l1
   repeat' first
   | (with_reducible exact ih0 _ _ _)
   | (with_reducible exact ih1 _ _ _ _)
   | (with_reducible exact ih2 _ _ _ _ _)
   | (with_reducible exact ih3 _ _ _ _ _ _)
   | (with_reducible exact spec_l7Folders.mono _ _)
   | (with_reducible exact spec_l7Inode.mono _ _ _ _ _ _ _ _ _ _)
   | (with_reducible exact LeO.refl _)
   | (with_reducible exact LeO.none _)
   | (with_reducible refine LeO.ite ?_ ?_)
   | (with_reducible refine LeO.bind ?_ (fun _ => ?_))
   | exact ih0 _ _ _
   | exact ih1 _ _ _ _
   | exact ih2 _ _ _ _ _
   | exact ih3 _ _ _ _ _ _
   | exact spec_l7Folders.mono _ _
   | exact spec_l7Inode.mono _ _ _ _ _ _ _ _ _ _
   | exact LeO.none _
   | refine LeO.ite ?_ ?_
   | refine LeO.bind ?_ (fun _ => ?_)
  ·intro y0 y1 y2 y3 y4
   unfold spec_FsOk.l2
   repeat' first
   | (with_reducible exact ih0 _ _ _)
   | (with_reducible exact ih1 _ _ _ _)
   | (with_reducible exact ih2 _ _ _ _ _)
   | (with_reducible exact ih3 _ _ _ _ _ _)
   | (with_reducible exact spec_l7Folders.mono _ _)
   | (with_reducible exact spec_l7Inode.mono _ _ _ _ _ _ _ _ _ _)
   | (with_reducible exact LeO.refl _)
   | (with_reducible exact LeO.none _)
   | (with_reducible refine LeO.ite ?_ ?_)
   | (with_reducible refine LeO.bind ?_ (fun _ => ?_))
   | exact ih0 _ _ _
   | exact ih1 _ _ _ _
   | exact ih2 _ _ _ _ _
   | exact ih3 _ _ _ _ _ _
   | exact spec_l7Folders.mono _ _
   | exact spec_l7Inode.mono _ _ _ _ _ _ _ _ _ _
   | exact LeO.none _
   | refine LeO.ite ?_ ?_
   | refine LeO.bind ?_ (fun _ => ?_)
  ·intro y0 y1 y2 y3 y4 y5
   unfold spec_FsOk.j3
   repeat' first
   | (with_reducible exact ih0 _ _ _)
   | (with_reducible exact ih1 _ _ _ _)
   | (with_reducible exact ih2 _ _ _ _ _)
   | (with_reducible exact ih3 _ _ _ _ _ _)
   | (with_reducible exact spec_l7Folders.mono _ _)
   | (with_reducible exact spec_l7Inode.mono _ _ _ _ _ _ _ _ _ _)
   | (with_reducible exact LeO.refl _)
   | (with_reducible exact LeO.none _)
   | (with_reducible refine LeO.ite ?_ ?_)
   | (with_reducible refine LeO.bind ?_ (fun _ => ?_))
   | exact ih0 _ _ _
   | exact ih1 _ _ _ _
   | exact ih2 _ _ _ _ _
   | exact ih3 _ _ _ _ _ _
   | exact spec_l7Folders.mono _ _
   | exact spec_l7Inode.mono _ _ _ _ _ _ _ _ _ _
   | exact LeO.none _
   | refine LeO.ite ?_ ?_
   | refine LeO.bind ?_ (fun _ => ?_)
theorem spec_FsOk.mono : ∀ a0 k,LeO (spec_FsOk.f k a0) (spec_FsOk.f (k + 1) a0) := by
 intro a0 k
 obtain ⟨ih0,ih1,ih2,ih3⟩ := spec_FsOk.mono_l k
 unfold spec_FsOk.f
 repeat' first
   | (with_reducible exact ih0 _ _ _)
   | (with_reducible exact ih1 _ _ _ _)
   | (with_reducible exact ih2 _ _ _ _ _)
   | (with_reducible exact ih3 _ _ _ _ _ _)
   | (with_reducible exact spec_l7Folders.mono _ _)
   | (with_reducible exact spec_l7Inode.mono _ _ _ _ _ _ _ _ _ _)
   | (with_reducible exact LeO.refl _)
   | (with_reducible exact LeO.none _)
   | (with_reducible refine LeO.ite ?_ ?_)
   | (with_reducible refine LeO.bind ?_ (fun _ => ?_))
   | exact ih0 _ _ _
   | exact ih1 _ _ _ _
   | exact ih2 _ _ _ _ _
   | exact ih3 _ _ _ _ _ _
   | exact spec_l7Folders.mono _ _
   | exact spec_l7Inode.mono _ _ _ _ _ _ _ _ _ _
   | exact LeO.none _
   | refine LeO.ite ?_ ?_
   | refine LeO.bind ?_ (fun _ => ?_)
def spec_FsOk.T12 : Bool × List (List Nat × List Nat) := (true,[([],[]),([],[]),([1],[1]),([],[]),([2,3],[2,3]),([4],[4]),([5],[5]),([],[]),([6,7],[6,7]),([8],[8]),([9],[9]),([],[]),([],[]),([12],[12]),([],[]),([13,14],[13,14]),([15],[15]),([16],[16]),([],[]),([17,18],[17,18]),([19],[19]),([20],[20]),([11,21],[11,21]),([22],[22]),([23],[23]),([0,10,0,1,2,3,4,5,6,7,8,9,10,11,12,13,14,15,16,17,18,19,20,21,22,23,24],[0,10]),([25,24,0,1,2,3,4,5,6,7,8,9,10,11,12,13,14,15,16,17,18,19,20,21,22,23,24],[24,25])])
def spec_FsOk.B12 : List Nat := [0,0,2,0,14,30,62,0,254,510,1022,0,0,4096,0,28672,61440,126976,0,520192,1044480,2093056,4192256,8386560,16775168,33554431,67108863]
theorem spec_FsOk.tab12 : rtab .any (opsOf Try.f16 12) = spec_FsOk.T12 := by kernel_rfl
theorem spec_FsOk.bits12 : waitsOk spec_FsOk.T12.2 spec_FsOk.B12 = true := by kernel_rfl
set_option maxHeartbeats 8000000 in
set_option maxRecDepth 100000 in
theorem spec_FsOk.calls (k : Nat) (A0_0 : Option Addr) (c0_0 : Nat) (l0_0 : List (S34)) (r : Bool) (w : World) (hr0_0 : Kd.C k34 w A0_0 l0_0.length l0_0) (hc0_0 : l0_0.length ≤ c0_0) (h : spec_FsOk.f k l0_0 = some r) :
  Calls Try.prog 16 #[.agg #[.slice A0_0 l0_0.length c0_0]] w fun e w' => e = .returned (.bool r) ∧ Below w.heap.size w w' := by
 have hu27 := Try.underlying27;have hu34 := Try.underlying34;have HR0_0 := Aside0.mk hr0_0;have HC0_0 := Aside0.mk hc0_0;clear hr0_0 hc0_0;have HB := Aside0.mk (Below.refl w.heap.size w);have H : (if (l0_0.length : Int) = 10 then (if 10 ≤ 35184372088832 then (spec_FsOk.l0 k (List.replicate 10 0) 0 l0_0) else (none)) else (some false)) = some r := h;clear h;by_cases c2 : (l0_0.length : Int) = 10
 ·rw [if_pos c2] at H;have c2b0 : ((l0_0.length : Int) == 10) = true := beq_iff_eq.mpr c2;have c2b1 : ((l0_0.length : Int) != 10) = false := bne_eq_false_iff_eq.mpr c2;have c2b2 : ((l0_0.length : Int) == 1) = false := beq_eq_false_iff_ne.mpr (by omega);have c2b3 : ((l0_0.length : Int) != 1) = true := bne_iff_ne.mpr (by omega);have c2b4 : ((l0_0.length : Int) == 2) = false := beq_eq_false_iff_ne.mpr (by omega);have c2b5 : ((l0_0.length : Int) != 2) = true := bne_iff_ne.mpr (by omega);clear c2;by_cases c3 : 10 ≤ 35184372088832
  ·rw [if_pos c3] at H;have c3b0 := eq_true c3;have c3b1 : decide (10 ≤ 35184372088832) = true := decide_eq_true c3;clear c3;obtain ⟨y184,hy184⟩ : ∃ y_ : List Int,y_ = (List.replicate 10 0) := ⟨_,rfl⟩;(replace H : (spec_FsOk.l0 k y184 0 l0_0) = some r := by first | (rw [hy184]; with_reducible exact H) | (have H2_ := (Option.bind_some _ _).symm.trans H; rw [hy184]; with_reducible exact H2_) | (have H2_ := (Option.bind_some _ _).symm.trans H; with_reducible exact H2_) | with_reducible exact H | (rw [hy184]; exact H) | exact H);have Ny184 := Aside0.mk hy184;clear hy184;have H' := Aside0.mk H;clear H
   go_enter Try.func16,Try.ntmps16
   go_wp2_with (first | ((with_reducible refine gate_dst (N := 1) rfl ?_); refine box_event ?hg (N := 1) ?hd (cs := #[.slice A0_0 l0_0.length c0_0]) (t := 27) ?hr ?_; (case hd => rfl); (case hg => rfl); (case hr => first | (go_simp; done) | (go_simp; rfl)); intro gb183 hg w4 hbox hb; have n0_ := Aside0.mk (below_step (by repeat (first | (with_reducible first | exact HB.out | apply yA | apply yN | apply yD) | exact HB.out)) hb); have n1_ := Aside0.mk (hbox); have n2_ := Aside0.mk ((by rw [hg]; exact (below_size (by repeat (first | (with_reducible first | exact HB.out | apply yA | apply yN | apply yD) | exact HB.out))) : w.heap.size ≤ gb183)); have n3_ := Aside0.mk ((by rw [hg]; exact (below_size (by repeat (first | (with_reducible first | exact HB.out | apply yA | apply yN | apply yD) | exact HB.out))) : w.heap.size ≤ gb183)); clear HB; have HB := n0_; have BK183 := n1_; have GW183 := n2_; have GE183 := n3_; clear n0_ n1_ n2_ n3_; clear hb hbox hg; have hcz5 := pk1 BK183.out) | ((with_reducible refine gate_dst (N := 14) rfl ?_); refine Kd.R_make (Kd.int .i64) _ 3 rfl (N := 14) rfl 50 _ _ rfl 10 rfl rfl Try.underlying50 (.int .i64 0) 8 info3 rfl (by decide) (by omega) 0 (ok := fun _ => True) (okp := fun _ => True) rfl (fun _ hk => hk) trivial (by omega) (by omega) (Below.refl _ _) (Nat.le_refl _) ?_; intro v185 w6 ho7 hb hg_ hnew_; clear hg_ hnew_; (first | rw [← Ny184.out] at ho7 | (simp only [Int.reduceToNat] at ho7; rw [← Ny184.out] at ho7)); have n0_ := Aside0.mk (Kd.R_lower ho7 (below_size (by repeat (first | (with_reducible first | exact HB.out | apply yA | apply yN | apply yD | refine yS ?_ GE183.out) | exact HB.out)))); have n1_ := Aside0.mk (blk_below (g := gb183) (o := .cells #[.slice A0_0 l0_0.length c0_0] 27 (0,0)) (by (with_reducible repeat (first | refine zN ?_ _ | refine zD ?_ | refine zA ?_ _)); exact BK183.out) hb); have n2_ := Aside0.mk (below_step (by repeat (first | (with_reducible first | exact HB.out | apply yA | apply yN | apply yD | refine yS ?_ GE183.out) | exact HB.out)) hb); clear BK183; clear HB; have HO186 := n0_; have BK183 := n1_; have HB := n2_; clear n0_ n1_ n2_; clear hb ho7))
   go_loopg [4] k (fun kq v4 w' => ∃ (x3_1 : List Int) (x4_1 : Int),v4 = .int .i64 x4_1 ∧ Aside0 (spec_FsOk.l0 kq x3_1 x4_1 l0_0 = some r) ∧ Aside0 (kq ≤ k) ∧ Aside0 (Kd.R (Kd.int .i64) 3 w' w.heap.size (fun _ => True) v185 x3_1) ∧ Aside0 (w'.heap[gb183]? = some (.cells #[(.slice A0_0 l0_0.length c0_0)] 27 (0,0))) ∧ Aside0 (Below w.heap.size w w'))
   case atStart => exact ⟨(y184),(0),(by first | rfl | (simp; done) | (simp [*]; done)),H',⟨Nat.le_refl _⟩,⟨by (with_reducible repeat (first | apply Kd.R_alloc | apply Kd.R_drewN | apply Kd.R_drew)); exact HO186.out⟩,⟨by (with_reducible repeat (first | refine zN ?_ _ | refine zD ?_ | refine zA ?_ _)); first | exact BK183.out | (simp only [*]; exact BK183.out)⟩,⟨by repeat (first | (with_reducible first | exact HB.out | apply yA | apply yN | apply yD | refine yS ?_ GE183.out) | exact HB.out)⟩⟩
   case round =>
    clear H';(try clear c1);(try clear c2);(try clear c2b0);(try clear c2b1);(try clear c2b2);(try clear p2);(try clear c3);(try clear c3b0);(try clear c3b1);(try clear hcz5);obtain ⟨x3_1,x4_1,rfl,HA,HK1,HO_3,BK183,HB⟩ := hrel
    cases gk with
    | zero => exact absurd HA.out (by simp [spec_FsOk.l0])
    | succ k1 =>
     have H := HA.out;clear HA
     simp only [spec_FsOk.l0] at H
     by_cases c8 : x4_1 < 10
     ·rw [if_pos c8] at H;have c8b0 : decide (x4_1 < 10) = true := decide_eq_true c8;clear c8;by_cases c9 : 0 ≤ x4_1
      ·rw [if_pos c9] at H;have c9b0 : decide (0 ≤ x4_1) = true := decide_eq_true c9;clear c9;by_cases c10 : x4_1 < (l0_0.length : Int)
       ·rw [if_pos c10] at H;have c10b0 : decide (x4_1 < (l0_0.length : Int)) = true := decide_eq_true c10;clear c10;replace H := Option.bind_eq_some_iff.mp H;obtain ⟨t188,A110,H⟩ := H;replace H : (if t188 = true then (spec_FsOk.l1 k1 x3_1 x4_1 0 l0_0) else (some false)) = some r := H;have A11 := Aside0.mk A110;clear A110;by_cases c12 : t188 = true
        ·subst c12;(have H1 : (spec_FsOk.l1 k1 x3_1 x4_1 0 l0_0) = some r := by rw [if_pos rfl] at H; exact H);clear H;have H := H1;clear H1;have H' := Aside0.mk H;clear H;have hcz13 := pk1 BK183.out;have p187 : 0 ≤ (x4_1 : Int) := od_ (by first | (with_reducible assumption) | assumption);have q187 : x4_1 < (l0_0.length : Int) := od_ (by first | (with_reducible assumption) | assumption);obtain ⟨ad187,A187_8,c187_8,e187,hx187_0,hx187_1,hx187_2,hx187_3,hx187_4,hx187_5,hx187_6,hx187_7,hx187_8,hl187_8,hi187_8⟩ := at_T34 HR0_0.out x4_1 p187 q187
         cases e187
         replace hx187_0 := bc_ HB hx187_0;replace hx187_1 := bc_ HB hx187_1;replace hx187_2 := bc_ HB hx187_2;replace hx187_3 := bc_ HB hx187_3;replace hx187_4 := bc_ HB hx187_4;replace hx187_5 := bc_ HB hx187_5;replace hx187_6 := bc_ HB hx187_6;replace hx187_7 := bc_ HB hx187_7;replace hx187_8 := bc_ HB hx187_8;have HR187_8 := Aside0.mk hi187_8;have HC187_8 := Aside0.mk hl187_8;clear hi187_8 hl187_8;replace p187 := eq_true p187;replace q187 := eq_true q187
         go_wp2_with (first | ((with_reducible refine gate_callee (f := 40) rfl ?_); refine goesL_ (some 24) rfl rfl Try.func40 (by kernel_rfl) rfl #[.agg #[.int .i64 ((rd_T34 l0_0 x4_1).f0),.int .i64 ((rd_T34 l0_0 x4_1).f1),.int .i64 ((rd_T34 l0_0 x4_1).f2),.int .i64 ((rd_T34 l0_0 x4_1).f3),.int .i64 ((rd_T34 l0_0 x4_1).f4),.int .i64 ((rd_T34 l0_0 x4_1).f5),.bool ((rd_T34 l0_0 x4_1).f6),.string ((rd_T34 l0_0 x4_1).f7),.slice A187_8 ((rd_T34 l0_0 x4_1).f8).length c187_8]] rfl (by (try simp only [List.map_toArray,List.map_cons,List.map_nil]); first | done | rfl | (simp only [List.length_drop,List.length_take]; rfl)) ?_; (with_reducible refine (spec_l7Inode.calls k1 ((rd_T34 l0_0 x4_1).f0) ((rd_T34 l0_0 x4_1).f1) ((rd_T34 l0_0 x4_1).f2) ((rd_T34 l0_0 x4_1).f3) ((rd_T34 l0_0 x4_1).f4) ((rd_T34 l0_0 x4_1).f5) ((rd_T34 l0_0 x4_1).f6) ((rd_T34 l0_0 x4_1).f7) _ _ ((rd_T34 l0_0 x4_1).f8) true _ ?side1 ?side2 A11.out).mono ?_); (case side1 => repeat (first | exact (Kd.C_below HR187_8.out HB.out) | (with_reducible refine Kd.C_alloc ?_ _) | (with_reducible refine Kd.C_drewN ?_ _) | (with_reducible refine Kd.C_drew ?_))); (case side2 => exact HC187_8.out); rintro e w14 ⟨rfl,hb⟩; refine ⟨_,rfl,?_⟩; have n0_ := Aside0.mk (Kd.R_below (by (with_reducible repeat (first | apply Kd.R_alloc | apply Kd.R_drewN | apply Kd.R_drew)); exact HO_3.out) hb); have n1_ := Aside0.mk (blk_below (g := gb183) (o := .cells #[.slice (some ad187) l0_0.length c0_0] 27 (0,0)) (by (with_reducible repeat (first | refine zN ?_ _ | refine zD ?_ | refine zA ?_ _)); exact BK183.out) hb); have n2_ := Aside0.mk (below_step (by repeat (first | (with_reducible first | exact HB.out | apply yA | apply yN | apply yD | refine yS ?_ GE183.out) | exact HB.out)) hb); clear HO_3; clear BK183; clear HB; have HO_3 := n0_; have BK183 := n1_; have HB := n2_; clear n0_ n1_ n2_; (try clear hb); (try clear hb2); (try clear hk); (try clear hi)))
         go_loopg [5] k1 (fun kq v5 w' => ∃ (x3_2 : List Int) (x5_2 : Int),v5 = .int .i64 x5_2 ∧ Aside0 (spec_FsOk.l1 kq x3_2 x4_1 x5_2 l0_0 = some r) ∧ Aside0 (kq ≤ k1) ∧ Aside0 (Kd.R (Kd.int .i64) 3 w' w.heap.size (fun _ => True) v185 x3_2) ∧ Aside0 (w'.heap[gb183]? = some (.cells #[(.slice (some ad187) l0_0.length c0_0)] 27 (0,0))) ∧ Aside0 (Below w.heap.size w w'))
         case atStart => exact ⟨(x3_1),(0),(by first | rfl | (simp; done) | (simp [*]; done)),H',⟨Nat.le_refl _⟩,⟨by (with_reducible repeat (first | apply Kd.R_alloc | apply Kd.R_drewN | apply Kd.R_drew)); exact HO_3.out⟩,⟨by (with_reducible repeat (first | refine zN ?_ _ | refine zD ?_ | refine zA ?_ _)); first | exact BK183.out | (simp only [*]; exact BK183.out)⟩,⟨by repeat (first | (with_reducible first | exact HB.out | apply yA | apply yN | apply yD | refine yS ?_ GE183.out) | exact HB.out)⟩⟩
         case round =>
          clear H';(try clear c1);(try clear p1);(try clear q1);(try clear hx1);(try clear c2);(try clear c2b0);(try clear c2b1);(try clear c2b2);(try clear p2);(try clear c3);(try clear c3b0);(try clear c3b1);(try clear c4);(try clear c8);(try clear c8b0);(try clear c9);(try clear c9b0);(try clear c10);(try clear c10b0);(try clear c12);(try clear hcz13);(try clear hcz5);(try clear hx187_0);(try clear hx187_1);(try clear hx187_2);(try clear hx187_3);(try clear hx187_4);(try clear hx187_5);(try clear hx187_6);(try clear hx187_7);(try clear hx187_8);(try clear p187);(try clear p2);(try clear q187);obtain ⟨x3_2,x5_2,rfl,HA,HK2,HO_3,BK183,HB⟩ := hrel
          cases gk with
          | zero => exact absurd HA.out (by simp [spec_FsOk.l1])
          | succ k2 =>
           have H := HA.out;clear HA
           simp only [spec_FsOk.l1] at H
           by_cases c15 : 0 ≤ x4_1
           ·rw [if_pos c15] at H;have c15b0 : decide (0 ≤ x4_1) = true := decide_eq_true c15;clear c15;by_cases c16 : x4_1 < (l0_0.length : Int)
            ·rw [if_pos c16] at H;have c16b0 : decide (x4_1 < (l0_0.length : Int)) = true := decide_eq_true c16;clear c16;by_cases c17 : x5_2 < (((rd_T34 l0_0 x4_1).f8).length : Int)
             ·rw [if_pos c17] at H;have c17b0 : decide (x5_2 < (((rd_T34 l0_0 x4_1).f8).length : Int)) = true := decide_eq_true c17;clear c17;by_cases c18 : 0 ≤ x5_2
              ·rw [if_pos c18] at H;have c18b0 : decide (0 ≤ x5_2) = true := decide_eq_true c18;clear c18;by_cases c19 : 0 ≤ ((rd_T47 ((rd_T34 l0_0 x4_1).f8) x5_2).f1)
               ·rw [if_pos c19] at H;have c19b0 : decide (0 ≤ ((rd_T47 ((rd_T34 l0_0 x4_1).f8) x5_2).f1)) = true := decide_eq_true c19;clear c19;by_cases c20 : ((rd_T47 ((rd_T34 l0_0 x4_1).f8) x5_2).f1) < (x3_2.length : Int)
                ·rw [if_pos c20] at H;have c20b0 : decide (((rd_T47 ((rd_T34 l0_0 x4_1).f8) x5_2).f1) < (x3_2.length : Int)) = true := decide_eq_true c20;clear c20;obtain ⟨y195,hy195⟩ : ∃ y_ : List Int,y_ = (x3_2.set (((rd_T47 ((rd_T34 l0_0 x4_1).f8) x5_2).f1) : Int).toNat (wrap64 ((rd x3_2 ((rd_T47 ((rd_T34 l0_0 x4_1).f8) x5_2).f1)) + 1))) := ⟨_,rfl⟩;(replace H : (spec_FsOk.l1 k2 y195 x4_1 (wrap64 (x5_2 + 1)) l0_0) = some r := by first | (rw [hy195]; with_reducible exact H) | (have H2_ := (Option.bind_some _ _).symm.trans H; rw [hy195]; with_reducible exact H2_) | (have H2_ := (Option.bind_some _ _).symm.trans H; with_reducible exact H2_) | with_reducible exact H | (rw [hy195]; exact H) | exact H);have Ny195 := Aside0.mk hy195;clear hy195;have H' := Aside0.mk H;clear H;have hcz22 := pk1 BK183.out;have p189 : 0 ≤ (x4_1 : Int) := od_ (by first | (with_reducible assumption) | assumption);have q189 : x4_1 < (l0_0.length : Int) := od_ (by first | (with_reducible assumption) | assumption);obtain ⟨ad189,A189_8,c189_8,e189,hx189_0,hx189_1,hx189_2,hx189_3,hx189_4,hx189_5,hx189_6,hx189_7,hx189_8,hl189_8,hi189_8⟩ := at_T34 HR0_0.out x4_1 p189 q189;obtain rfl : ad187 = ad189 := (by injection e189);replace hx189_0 := bc_ HB hx189_0;replace hx189_1 := bc_ HB hx189_1;replace hx189_2 := bc_ HB hx189_2;replace hx189_3 := bc_ HB hx189_3
                 replace hx189_4 := bc_ HB hx189_4;replace hx189_5 := bc_ HB hx189_5;replace hx189_6 := bc_ HB hx189_6;replace hx189_7 := bc_ HB hx189_7;replace hx189_8 := bc_ HB hx189_8;have HR189_8 := Aside0.mk hi189_8;have HC189_8 := Aside0.mk hl189_8;clear hi189_8 hl189_8;replace p189 := eq_true p189;replace q189 := eq_true q189
                 try go_wp2
                 have n0_ := Aside0.mk (Kd.R_drew HO_3.out);have n1_ := Aside0.mk (zD BK183.out);have n2_ := Aside0.mk (yD HB.out);clear HO_3;clear BK183;clear HB;have HO_3 := n0_;have BK183 := n1_;have HB := n2_;clear n0_ n1_ n2_;have p190 : 0 ≤ (x4_1 : Int) := od_ (by first | (with_reducible assumption) | assumption);have q190 : x4_1 < (l0_0.length : Int) := od_ (by first | (with_reducible assumption) | assumption);obtain ⟨ad190,A190_8,c190_8,e190,hx190_0,hx190_1,hx190_2,hx190_3,hx190_4,hx190_5,hx190_6,hx190_7,hx190_8,hl190_8,hi190_8⟩ := at_T34 HR0_0.out x4_1 p190 q190;have hw190_8 := hx190_8;have hw190_7 := hx190_7;have hw190_6 := hx190_6;have hw190_5 := hx190_5;have hw190_4 := hx190_4;have hw190_3 := hx190_3;have hw190_2 := hx190_2;have hw190_1 := hx190_1;have hw190_0 := hx190_0;obtain rfl : ad187 = ad190 := (by injection e190);replace hx190_0 := bc_ HB hx190_0;replace hx190_1 := bc_ HB hx190_1;replace hx190_2 := bc_ HB hx190_2;replace hx190_3 := bc_ HB hx190_3;replace hx190_4 := bc_ HB hx190_4;replace hx190_5 := bc_ HB hx190_5;replace hx190_6 := bc_ HB hx190_6;replace hx190_7 := bc_ HB hx190_7
                 replace hx190_8 := bc_ HB hx190_8;have HR190_8 := Aside0.mk hi190_8;have HC190_8 := Aside0.mk hl190_8;clear hi190_8 hl190_8;replace p190 := eq_true p190;replace q190 := eq_true q190;have p191 : 0 ≤ (x5_2 : Int) := od_ (by first | (with_reducible assumption) | assumption);have q191 : x5_2 < (((rd_T34 l0_0 x4_1).f8).length : Int) := od_ (by first | (with_reducible assumption) | assumption);obtain ⟨ad191,e191,hx191_0,hx191_1⟩ := at_T47 HR190_8.out x5_2 p191 q191;have hw191_1 := hx191_1;have hw191_0 := hx191_0
                 cases e191
                 replace hx191_0 := bc_ HB hx191_0;replace hx191_1 := bc_ HB hx191_1;replace p191 := eq_true p191;replace q191 := eq_true q191;have p192 : 0 ≤ (x4_1 : Int) := od_ (by first | (with_reducible assumption) | assumption);have q192 : x4_1 < (l0_0.length : Int) := od_ (by first | (with_reducible assumption) | assumption);obtain ⟨ad192,A192_8,c192_8,e192,hx192_0,hx192_1,hx192_2,hx192_3,hx192_4,hx192_5,hx192_6,hx192_7,hx192_8,hl192_8,hi192_8⟩ := at_T34 HR0_0.out x4_1 p192 q192;have hw192_8 := hx192_8;have hw192_7 := hx192_7;have hw192_6 := hx192_6;have hw192_5 := hx192_5;have hw192_4 := hx192_4;have hw192_3 := hx192_3;have hw192_2 := hx192_2;have hw192_1 := hx192_1;have hw192_0 := hx192_0;obtain rfl : ad187 = ad192 := (by injection e192);replace hx192_0 := bc_ HB hx192_0;replace hx192_1 := bc_ HB hx192_1;replace hx192_2 := bc_ HB hx192_2;replace hx192_3 := bc_ HB hx192_3;replace hx192_4 := bc_ HB hx192_4;replace hx192_5 := bc_ HB hx192_5;replace hx192_6 := bc_ HB hx192_6;replace hx192_7 := bc_ HB hx192_7
                 replace hx192_8 := bc_ HB hx192_8;have HR192_8 := Aside0.mk hi192_8;have HC192_8 := Aside0.mk hl192_8;clear hi192_8 hl192_8;replace p192 := eq_true p192;replace q192 := eq_true q192;have ea_ := Option.some.inj (hx190_8.symm.trans hx192_8)
                 injection ea_ with ea_ en_ ec_
                 subst ea_;subst ec_;clear en_;have p193 : 0 ≤ (x5_2 : Int) := od_ (by first | (with_reducible assumption) | assumption);have q193 : x5_2 < (((rd_T34 l0_0 x4_1).f8).length : Int) := od_ (by first | (with_reducible assumption) | assumption);obtain ⟨ad193,e193,hx193_0,hx193_1⟩ := at_T47 HR192_8.out x5_2 p193 q193;have hw193_1 := hx193_1;have hw193_0 := hx193_0
                 cases e193
                 replace hx193_0 := bc_ HB hx193_0;replace hx193_1 := bc_ HB hx193_1;replace p193 := eq_true p193;replace q193 := eq_true q193;obtain ⟨Ao24,co24,eo24⟩ := Kd.R_slice HO_3.out;(first | subst eo24 | (injection eo24 with f1_ f2_ f3_; have f4_ := f1_.symm; have f5_ := f3_.symm; clear f1_ f2_ f3_; subst f4_; subst f5_));have p194 : 0 ≤ (((rd_T47 ((rd_T34 l0_0 x4_1).f8) x5_2).f1) : Int) := od_ (by first | (with_reducible assumption) | assumption);have q194 : ((rd_T47 ((rd_T34 l0_0 x4_1).f8) x5_2).f1) < (x3_2.length : Int) := od_ (by first | (with_reducible assumption) | assumption);obtain ⟨ad194,e194,hx194_0⟩ := Kd.at_int (Kd.R_reads' HO_3.out).2.2 ((rd_T47 ((rd_T34 l0_0 x4_1).f8) x5_2).f1) p194 q194
                 cases e194
                 replace p194 := eq_true p194;replace q194 := eq_true q194;have p21 : 0 ≤ (((rd_T47 ((rd_T34 l0_0 x4_1).f8) x5_2).f1) : Int) := od_ (by first | (with_reducible assumption) | assumption);have q21 : (((rd_T47 ((rd_T34 l0_0 x4_1).f8) x5_2).f1) : Int) < ((x3_2.length : Int) : Int) := od_ (by first | (with_reducible assumption) | assumption);obtain ⟨go21,co21,eo21,gb21,gl21,cl21,HG21⟩ := Kd.R_form HO_3.out (by omega);(first | cases eo21 | (injection eo21 with ea_ en_ ec_; (first | subst ea_ | (injection ea_ with ea_; subst ea_)); subst ec_; clear en_));have GB21 := Aside0.mk gb21;have GG21 := Aside0.mk HG21;clear gb21 gl21 HG21;(first | simp only [add_plain] at hx194_0 | skip);obtain ⟨hx21_0,hf21_0⟩ := Kd.R_celln 0 HO_3.out (((rd_T47 ((rd_T34 l0_0 x4_1).f8) x5_2).f1) : Int) p21 q21;replace p21 := eq_true p21;replace q21 := eq_true q21;have HP25 := Kd.R_putn HO_3.out (((rd_T47 ((rd_T34 l0_0 x4_1).f8) x5_2).f1) : Int) (wrap64 ((rd x3_2 ((rd_T47 ((rd_T34 l0_0 x4_1).f8) x5_2).f1)) + 1));rw [← Ny195.out] at HP25;have HQ25 := Aside0.mk HP25;clear HP25
                 refine start_ (n := 27) (S := fun w' => w'.cell? ⟨gb183,0,none⟩ = some (.slice (some ad187) l0_0.length c0_0) ∧ w'.cell? (ad187.add ((x4_1).toNat * 9)) = some (.int .i64 ((rd_T34 l0_0 x4_1).f0)) ∧ w'.cell? ⟨(ad187.add ((x4_1).toNat * 9)).block,(ad187.add ((x4_1).toNat * 9)).off + 1,none⟩ = some (.int .i64 ((rd_T34 l0_0 x4_1).f1)) ∧ w'.cell? ⟨(ad187.add ((x4_1).toNat * 9)).block,(ad187.add ((x4_1).toNat * 9)).off + 2,none⟩ = some (.int .i64 ((rd_T34 l0_0 x4_1).f2)) ∧ w'.cell? ⟨(ad187.add ((x4_1).toNat * 9)).block,(ad187.add ((x4_1).toNat * 9)).off + 3,none⟩ = some (.int .i64 ((rd_T34 l0_0 x4_1).f3)) ∧ w'.cell? ⟨(ad187.add ((x4_1).toNat * 9)).block,(ad187.add ((x4_1).toNat * 9)).off + 4,none⟩ = some (.int .i64 ((rd_T34 l0_0 x4_1).f4)) ∧ w'.cell? ⟨(ad187.add ((x4_1).toNat * 9)).block,(ad187.add ((x4_1).toNat * 9)).off + 5,none⟩ = some (.int .i64 ((rd_T34 l0_0 x4_1).f5)) ∧ w'.cell? ⟨(ad187.add ((x4_1).toNat * 9)).block,(ad187.add ((x4_1).toNat * 9)).off + 6,none⟩ = some (.bool ((rd_T34 l0_0 x4_1).f6)) ∧ w'.cell? ⟨(ad187.add ((x4_1).toNat * 9)).block,(ad187.add ((x4_1).toNat * 9)).off + 7,none⟩ = some (.string ((rd_T34 l0_0 x4_1).f7)) ∧ w'.cell? ⟨(ad187.add ((x4_1).toNat * 9)).block,(ad187.add ((x4_1).toNat * 9)).off + 8,none⟩ = some (.slice (some ad191) ((rd_T34 l0_0 x4_1).f8).length c190_8) ∧ w'.cell? (ad191.add ((x5_2).toNat * 2)) = some (.string ((rd_T47 ((rd_T34 l0_0 x4_1).f8) x5_2).f0)) ∧ w'.cell? ⟨(ad191.add ((x5_2).toNat * 2)).block,(ad191.add ((x5_2).toNat * 2)).off + 1,none⟩ = some (.int .i64 ((rd_T47 ((rd_T34 l0_0 x4_1).f8) x5_2).f1)) ∧ w'.cell? (ad187.add ((x4_1).toNat * 9)) = some (.int .i64 ((rd_T34 l0_0 x4_1).f0)) ∧ w'.cell? ⟨(ad187.add ((x4_1).toNat * 9)).block,(ad187.add ((x4_1).toNat * 9)).off + 1,none⟩ = some (.int .i64 ((rd_T34 l0_0 x4_1).f1)) ∧ w'.cell? ⟨(ad187.add ((x4_1).toNat * 9)).block,(ad187.add ((x4_1).toNat * 9)).off + 2,none⟩ = some (.int .i64 ((rd_T34 l0_0 x4_1).f2)) ∧ w'.cell? ⟨(ad187.add ((x4_1).toNat * 9)).block,(ad187.add ((x4_1).toNat * 9)).off + 3,none⟩ = some (.int .i64 ((rd_T34 l0_0 x4_1).f3)) ∧ w'.cell? ⟨(ad187.add ((x4_1).toNat * 9)).block,(ad187.add ((x4_1).toNat * 9)).off + 4,none⟩ = some (.int .i64 ((rd_T34 l0_0 x4_1).f4)) ∧ w'.cell? ⟨(ad187.add ((x4_1).toNat * 9)).block,(ad187.add ((x4_1).toNat * 9)).off + 5,none⟩ = some (.int .i64 ((rd_T34 l0_0 x4_1).f5)) ∧ w'.cell? ⟨(ad187.add ((x4_1).toNat * 9)).block,(ad187.add ((x4_1).toNat * 9)).off + 6,none⟩ = some (.bool ((rd_T34 l0_0 x4_1).f6)) ∧ w'.cell? ⟨(ad187.add ((x4_1).toNat * 9)).block,(ad187.add ((x4_1).toNat * 9)).off + 7,none⟩ = some (.string ((rd_T34 l0_0 x4_1).f7)) ∧ w'.cell? ⟨(ad187.add ((x4_1).toNat * 9)).block,(ad187.add ((x4_1).toNat * 9)).off + 8,none⟩ = some (.slice (some ad191) ((rd_T34 l0_0 x4_1).f8).length c190_8) ∧ w'.cell? (ad191.add ((x5_2).toNat * 2)) = some (.string ((rd_T47 ((rd_T34 l0_0 x4_1).f8) x5_2).f0)) ∧ w'.cell? ⟨(ad191.add ((x5_2).toNat * 2)).block,(ad191.add ((x5_2).toNat * 2)).off + 1,none⟩ = some (.int .i64 ((rd_T47 ((rd_T34 l0_0 x4_1).f8) x5_2).f1)) ∧ w'.cell? ⟨go21,(((rd_T47 ((rd_T34 l0_0 x4_1).f8) x5_2).f1)).toNat,none⟩ = some (.int .i64 (rd x3_2 ((rd_T47 ((rd_T34 l0_0 x4_1).f8) x5_2).f1)))) (ds := [26]) #[false,false,false,false,false,false,false,false,false,false,false,false,false,false,false,false,false,false,false,false,false,false,false,false,false,false,false] (by kernel_rfl) rfl rfl ⟨(blk_cell BK183.out 0).trans rfl,((HB.out.cell (World.block_lt_of_cell? w _ hw190_0)).trans hw190_0),((HB.out.cell (World.block_lt_of_cell? w _ hw190_1)).trans hw190_1),((HB.out.cell (World.block_lt_of_cell? w _ hw190_2)).trans hw190_2),((HB.out.cell (World.block_lt_of_cell? w _ hw190_3)).trans hw190_3),((HB.out.cell (World.block_lt_of_cell? w _ hw190_4)).trans hw190_4),((HB.out.cell (World.block_lt_of_cell? w _ hw190_5)).trans hw190_5),((HB.out.cell (World.block_lt_of_cell? w _ hw190_6)).trans hw190_6),((HB.out.cell (World.block_lt_of_cell? w _ hw190_7)).trans hw190_7),((HB.out.cell (World.block_lt_of_cell? w _ hw190_8)).trans hw190_8),((HB.out.cell (World.block_lt_of_cell? w _ hw191_0)).trans hw191_0),((HB.out.cell (World.block_lt_of_cell? w _ hw191_1)).trans hw191_1),((HB.out.cell (World.block_lt_of_cell? w _ hw192_0)).trans hw192_0),((HB.out.cell (World.block_lt_of_cell? w _ hw192_1)).trans hw192_1),((HB.out.cell (World.block_lt_of_cell? w _ hw192_2)).trans hw192_2),((HB.out.cell (World.block_lt_of_cell? w _ hw192_3)).trans hw192_3),((HB.out.cell (World.block_lt_of_cell? w _ hw192_4)).trans hw192_4),((HB.out.cell (World.block_lt_of_cell? w _ hw192_5)).trans hw192_5),((HB.out.cell (World.block_lt_of_cell? w _ hw192_6)).trans hw192_6),((HB.out.cell (World.block_lt_of_cell? w _ hw192_7)).trans hw192_7),((HB.out.cell (World.block_lt_of_cell? w _ hw192_8)).trans hw192_8),((HB.out.cell (World.block_lt_of_cell? w _ hw193_0)).trans hw193_0),((HB.out.cell (World.block_lt_of_cell? w _ hw193_1)).trans hw193_1),hx194_0⟩ (fun hHeld => ?_); refine with_tabW spec_FsOk.tab12 spec_FsOk.bits12 (fun HT_ HW_ => ?_)
                 generalize wr.drew = w23 at HO_3 BK183 HB GG21 HQ25 HR190_8 HR192_8 hf21_0 hx190_0 hx190_1 hx190_2 hx190_3 hx190_4 hx190_5 hx190_6 hx190_7 hx190_8 hx191_0 hx191_1 hx192_0 hx192_1 hx192_2 hx192_3 hx192_4 hx192_5 hx192_6 hx192_7 hx192_8 hx193_0 hx193_1 hx194_0 hx21_0 hHeld ⊢
                 refine pure_ (i := 0) (N := some 37) (v := ?_) (a' := ?_) #[true,false,false,false,false,false,false,false,false,false,false,false,false,false,false,false,false,false,false,false,false,false,false,false,false,false,false] rfl rfl (any_of HT_.out (by kernel_rfl)) (fun _ _ _ h => h) (Or.inl ⟨by rfl,?_⟩) ?_ ?_
                 rotate_left
                 ·intro w'
                  go_simp
                  with_reducible rfl
                 rotate_left
                 ·simp only [Act.put,List.setIfInBounds_toArray,List.set_cons_zero,List.set_cons_succ,i64_w,i32_w]
                  rfl
                 refine pure_ (i := 1) (N := some 38) (v := ?_) (a' := ?_) #[true,true,false,false,false,false,false,false,false,false,false,false,false,false,false,false,false,false,false,false,false,false,false,false,false,false,false] rfl rfl (any_of HT_.out (by kernel_rfl)) (fun _ _ _ h => h) (Or.inl ⟨by rfl,?_⟩) ?_ ?_
                 rotate_left
                 ·intro w'
                  go_simp
                  with_reducible rfl
                 rotate_left
                 ·simp only [Act.put,List.setIfInBounds_toArray,List.set_cons_zero,List.set_cons_succ,i64_w,i32_w]
                  rfl
                 refine pure_ (i := 3) (N := some 40) (v := ?_) (a' := ?_) #[true,true,false,true,false,false,false,false,false,false,false,false,false,false,false,false,false,false,false,false,false,false,false,false,false,false,false] rfl rfl (any_of HT_.out (by kernel_rfl)) (fun _ _ _ h => h) (Or.inl ⟨by rfl,?_⟩) ?_ ?_
                 rotate_left
                 ·intro w'
                  go_simp
                  with_reducible rfl
                 rotate_left
                 ·simp only [Act.put,List.setIfInBounds_toArray,List.set_cons_zero,List.set_cons_succ,i64_w,i32_w]
                  rfl
                 refine pure_ (i := 7) (N := some 44) (v := ?_) (a' := ?_) #[true,true,false,true,false,false,false,true,false,false,false,false,false,false,false,false,false,false,false,false,false,false,false,false,false,false,false] rfl rfl (any_of HT_.out (by kernel_rfl)) (fun _ _ _ h => h) (Or.inl ⟨by rfl,?_⟩) ?_ ?_
                 rotate_left
                 ·intro w'
                  go_simp
                  with_reducible rfl
                 rotate_left
                 ·simp only [Act.put,List.setIfInBounds_toArray,List.set_cons_zero,List.set_cons_succ,i64_w,i32_w]
                  rfl
                 refine pure_ (i := 11) (N := some 48) (v := ?_) (a' := ?_) #[true,true,false,true,false,false,false,true,false,false,false,true,false,false,false,false,false,false,false,false,false,false,false,false,false,false,false] rfl rfl (any_of HT_.out (by kernel_rfl)) (fun _ _ _ h => h) (Or.inl ⟨by rfl,?_⟩) ?_ ?_
                 rotate_left
                 ·intro w'
                  go_simp
                  with_reducible rfl
                 rotate_left
                 ·simp only [Act.put,List.setIfInBounds_toArray,List.set_cons_zero,List.set_cons_succ,i64_w,i32_w]
                  rfl
                 refine pure_ (i := 12) (N := some 49) (v := ?_) (a' := ?_) #[true,true,false,true,false,false,false,true,false,false,false,true,true,false,false,false,false,false,false,false,false,false,false,false,false,false,false] rfl rfl (any_of HT_.out (by kernel_rfl)) (fun _ _ _ h => h) (Or.inl ⟨by rfl,?_⟩) ?_ ?_
                 rotate_left
                 ·intro w'
                  go_simp
                  with_reducible rfl
                 rotate_left
                 ·simp only [Act.put,List.setIfInBounds_toArray,List.set_cons_zero,List.set_cons_succ,i64_w,i32_w]
                  rfl
                 refine pure_ (i := 14) (N := some 51) (v := ?_) (a' := ?_) #[true,true,false,true,false,false,false,true,false,false,false,true,true,false,true,false,false,false,false,false,false,false,false,false,false,false,false] rfl rfl (any_of HT_.out (by kernel_rfl)) (fun _ _ _ h => h) (Or.inl ⟨by rfl,?_⟩) ?_ ?_
                 rotate_left
                 ·intro w'
                  go_simp
                  with_reducible rfl
                 rotate_left
                 ·simp only [Act.put,List.setIfInBounds_toArray,List.set_cons_zero,List.set_cons_succ,i64_w,i32_w]
                  rfl
                 refine pure_ (i := 18) (N := some 55) (v := ?_) (a' := ?_) #[true,true,false,true,false,false,false,true,false,false,false,true,true,false,true,false,false,false,true,false,false,false,false,false,false,false,false] rfl rfl (any_of HT_.out (by kernel_rfl)) (fun _ _ _ h => h) (Or.inl ⟨by rfl,?_⟩) ?_ ?_
                 rotate_left
                 ·intro w'
                  go_simp
                  with_reducible rfl
                 rotate_left
                 ·simp only [Act.put,List.setIfInBounds_toArray,List.set_cons_zero,List.set_cons_succ,i64_w,i32_w]
                  rfl
                 refine take_ (i := 2) (N := some 39) (v := ?_) (a' := ?_) #[true,true,true,true,false,false,false,true,false,false,false,true,true,false,true,false,false,false,true,false,false,false,false,false,false,false,false] rfl rfl (take_ofW HT_.out HW_.out (by kernel_rfl)) (fun _ _ _ h => h) (Or.inl ⟨by rfl,?_⟩) hHeld ?_ ?_
                 rotate_left
                 ·rintro w' ⟨s0,s1,s2,s3,s4,s5,s6,s7,s8,s9,s10,s11,s12,s13,s14,s15,s16,s17,s18,s19,s20,s21,s22,s23⟩
                  go_simp
                  with_reducible rfl
                 rotate_left
                 ·simp only [Act.put,List.setIfInBounds_toArray,List.set_cons_zero,List.set_cons_succ,i64_w,i32_w]
                  rfl
                 refine pure_ (i := 4) (N := some 41) (v := ?_) (a' := ?_) #[true,true,true,true,true,false,false,true,false,false,false,true,true,false,true,false,false,false,true,false,false,false,false,false,false,false,false] rfl rfl (any_of HT_.out (by kernel_rfl)) (fun _ _ _ h => h) (Or.inl ⟨by rfl,?_⟩) ?_ ?_
                 rotate_left
                 ·intro w'
                  go_simp
                  with_reducible rfl
                 rotate_left
                 ·simp only [Act.put,List.setIfInBounds_toArray,List.set_cons_zero,List.set_cons_succ,i64_w,i32_w]
                  rfl
                 refine pure_ (i := 5) (N := some 42) (v := ?_) (a' := ?_) #[true,true,true,true,true,true,false,true,false,false,false,true,true,false,true,false,false,false,true,false,false,false,false,false,false,false,false] rfl rfl (any_of HT_.out (by kernel_rfl)) (fun _ _ _ h => h) (Or.inl ⟨by rfl,?_⟩) ?_ ?_
                 rotate_left
                 ·intro w'
                  go_simp
                  with_reducible rfl
                 rotate_left
                 ·simp only [Act.put,List.setIfInBounds_toArray,List.set_cons_zero,List.set_cons_succ,i64_w,i32_w]
                  rfl
                 refine take_ (i := 6) (N := some 43) (v := ?_) (a' := ?_) #[true,true,true,true,true,true,true,true,false,false,false,true,true,false,true,false,false,false,true,false,false,false,false,false,false,false,false] rfl rfl (take_ofW HT_.out HW_.out (by kernel_rfl)) (fun _ _ _ h => h) (Or.inl ⟨by rfl,?_⟩) hHeld ?_ ?_
                 rotate_left
                 ·rintro w' ⟨s0,s1,s2,s3,s4,s5,s6,s7,s8,s9,s10,s11,s12,s13,s14,s15,s16,s17,s18,s19,s20,s21,s22,s23⟩
                  go_simp
                  with_reducible rfl
                 rotate_left
                 ·simp only [Act.put,List.setIfInBounds_toArray,List.set_cons_zero,List.set_cons_succ,i64_w,i32_w]
                  rfl
                 refine pure_ (i := 8) (N := some 45) (v := ?_) (a' := ?_) #[true,true,true,true,true,true,true,true,true,false,false,true,true,false,true,false,false,false,true,false,false,false,false,false,false,false,false] rfl rfl (any_of HT_.out (by kernel_rfl)) (fun _ _ _ h => h) (Or.inl ⟨by rfl,?_⟩) ?_ ?_
                 rotate_left
                 ·intro w'
                  go_simp
                  with_reducible rfl
                 rotate_left
                 ·simp only [Act.put,List.setIfInBounds_toArray,List.set_cons_zero,List.set_cons_succ,i64_w,i32_w]
                  rfl
                 refine pure_ (i := 9) (N := some 46) (v := ?_) (a' := ?_) #[true,true,true,true,true,true,true,true,true,true,false,true,true,false,true,false,false,false,true,false,false,false,false,false,false,false,false] rfl rfl (any_of HT_.out (by kernel_rfl)) (fun _ _ _ h => h) (Or.inl ⟨by rfl,?_⟩) ?_ ?_
                 rotate_left
                 ·intro w'
                  go_simp
                  with_reducible rfl
                 rotate_left
                 ·simp only [Act.put,List.setIfInBounds_toArray,List.set_cons_zero,List.set_cons_succ,i64_w,i32_w]
                  rfl
                 refine take_ (i := 10) (N := some 47) (v := ?_) (a' := ?_) #[true,true,true,true,true,true,true,true,true,true,true,true,true,false,true,false,false,false,true,false,false,false,false,false,false,false,false] rfl rfl (take_ofW HT_.out HW_.out (by kernel_rfl)) (fun _ _ _ h => h) (Or.inl ⟨by rfl,?_⟩) hHeld ?_ ?_
                 rotate_left
                 ·rintro w' ⟨s0,s1,s2,s3,s4,s5,s6,s7,s8,s9,s10,s11,s12,s13,s14,s15,s16,s17,s18,s19,s20,s21,s22,s23⟩
                  go_simp
                  with_reducible rfl
                 rotate_left
                 ·simp only [Act.put,List.setIfInBounds_toArray,List.set_cons_zero,List.set_cons_succ,i64_w,i32_w]
                  rfl
                 refine take_ (i := 13) (N := some 50) (v := ?_) (a' := ?_) #[true,true,true,true,true,true,true,true,true,true,true,true,true,true,true,false,false,false,true,false,false,false,false,false,false,false,false] rfl rfl (take_ofW HT_.out HW_.out (by kernel_rfl)) (fun _ _ _ h => h) (Or.inl ⟨by rfl,?_⟩) hHeld ?_ ?_
                 rotate_left
                 ·rintro w' ⟨s0,s1,s2,s3,s4,s5,s6,s7,s8,s9,s10,s11,s12,s13,s14,s15,s16,s17,s18,s19,s20,s21,s22,s23⟩
                  go_simp
                  with_reducible rfl
                 rotate_left
                 ·simp only [Act.put,List.setIfInBounds_toArray,List.set_cons_zero,List.set_cons_succ,i64_w,i32_w]
                  rfl
                 refine pure_ (i := 15) (N := some 52) (v := ?_) (a' := ?_) #[true,true,true,true,true,true,true,true,true,true,true,true,true,true,true,true,false,false,true,false,false,false,false,false,false,false,false] rfl rfl (any_of HT_.out (by kernel_rfl)) (fun _ _ _ h => h) (Or.inl ⟨by rfl,?_⟩) ?_ ?_
                 rotate_left
                 ·intro w'
                  go_simp
                  with_reducible rfl
                 rotate_left
                 ·simp only [Act.put,List.setIfInBounds_toArray,List.set_cons_zero,List.set_cons_succ,i64_w,i32_w]
                  rfl
                 refine pure_ (i := 16) (N := some 53) (v := ?_) (a' := ?_) #[true,true,true,true,true,true,true,true,true,true,true,true,true,true,true,true,true,false,true,false,false,false,false,false,false,false,false] rfl rfl (any_of HT_.out (by kernel_rfl)) (fun _ _ _ h => h) (Or.inl ⟨by rfl,?_⟩) ?_ ?_
                 rotate_left
                 ·intro w'
                  go_simp
                  with_reducible rfl
                 rotate_left
                 ·simp only [Act.put,List.setIfInBounds_toArray,List.set_cons_zero,List.set_cons_succ,i64_w,i32_w]
                  rfl
                 refine take_ (i := 17) (N := some 54) (v := ?_) (a' := ?_) #[true,true,true,true,true,true,true,true,true,true,true,true,true,true,true,true,true,true,true,false,false,false,false,false,false,false,false] rfl rfl (take_ofW HT_.out HW_.out (by kernel_rfl)) (fun _ _ _ h => h) (Or.inl ⟨by rfl,?_⟩) hHeld ?_ ?_
                 rotate_left
                 ·rintro w' ⟨s0,s1,s2,s3,s4,s5,s6,s7,s8,s9,s10,s11,s12,s13,s14,s15,s16,s17,s18,s19,s20,s21,s22,s23⟩
                  go_simp
                  with_reducible rfl
                 rotate_left
                 ·simp only [Act.put,List.setIfInBounds_toArray,List.set_cons_zero,List.set_cons_succ,i64_w,i32_w]
                  rfl
                 refine pure_ (i := 19) (N := some 56) (v := ?_) (a' := ?_) #[true,true,true,true,true,true,true,true,true,true,true,true,true,true,true,true,true,true,true,true,false,false,false,false,false,false,false] rfl rfl (any_of HT_.out (by kernel_rfl)) (fun _ _ _ h => h) (Or.inl ⟨by rfl,?_⟩) ?_ ?_
                 rotate_left
                 ·intro w'
                  go_simp
                  with_reducible rfl
                 rotate_left
                 ·simp only [Act.put,List.setIfInBounds_toArray,List.set_cons_zero,List.set_cons_succ,i64_w,i32_w]
                  rfl
                 refine pure_ (i := 20) (N := some 57) (v := ?_) (a' := ?_) #[true,true,true,true,true,true,true,true,true,true,true,true,true,true,true,true,true,true,true,true,true,false,false,false,false,false,false] rfl rfl (any_of HT_.out (by kernel_rfl)) (fun _ _ _ h => h) (Or.inl ⟨by rfl,?_⟩) ?_ ?_
                 rotate_left
                 ·intro w'
                  go_simp
                  with_reducible rfl
                 rotate_left
                 ·simp only [Act.put,List.setIfInBounds_toArray,List.set_cons_zero,List.set_cons_succ,i64_w,i32_w]
                  rfl
                 refine take_ (i := 21) (N := some 58) (v := ?_) (a' := ?_) #[true,true,true,true,true,true,true,true,true,true,true,true,true,true,true,true,true,true,true,true,true,true,false,false,false,false,false] rfl rfl (take_ofW HT_.out HW_.out (by kernel_rfl)) (fun _ _ _ h => h) (Or.inl ⟨by rfl,?_⟩) hHeld ?_ ?_
                 rotate_left
                 ·rintro w' ⟨s0,s1,s2,s3,s4,s5,s6,s7,s8,s9,s10,s11,s12,s13,s14,s15,s16,s17,s18,s19,s20,s21,s22,s23⟩
                  go_simp
                  with_reducible rfl
                 rotate_left
                 ·simp only [Act.put,List.setIfInBounds_toArray,List.set_cons_zero,List.set_cons_succ,i64_w,i32_w]
                  rfl
                 refine pure_ (i := 22) (N := some 59) (v := ?_) (a' := ?_) #[true,true,true,true,true,true,true,true,true,true,true,true,true,true,true,true,true,true,true,true,true,true,true,false,false,false,false] rfl rfl (any_of HT_.out (by kernel_rfl)) (fun _ _ _ h => h) (Or.inl ⟨by rfl,?_⟩) ?_ ?_
                 rotate_left
                 ·intro w'
                  go_simp
                  with_reducible rfl
                 rotate_left
                 ·simp only [Act.put,List.setIfInBounds_toArray,List.set_cons_zero,List.set_cons_succ,i64_w,i32_w]
                  rfl
                 refine take_ (i := 23) (N := some 60) (v := ?_) (a' := ?_) #[true,true,true,true,true,true,true,true,true,true,true,true,true,true,true,true,true,true,true,true,true,true,true,true,false,false,false] rfl rfl (take_ofW HT_.out HW_.out (by kernel_rfl)) (fun _ _ _ h => h) (Or.inl ⟨by rfl,?_⟩) hHeld ?_ ?_
                 rotate_left
                 ·rintro w' ⟨s0,s1,s2,s3,s4,s5,s6,s7,s8,s9,s10,s11,s12,s13,s14,s15,s16,s17,s18,s19,s20,s21,s22,s23⟩
                  go_simp
                  with_reducible rfl
                 rotate_left
                 ·simp only [Act.put,List.setIfInBounds_toArray,List.set_cons_zero,List.set_cons_succ,i64_w,i32_w]
                  rfl
                 refine pure_ (i := 24) (N := some 61) (v := ?_) (a' := ?_) #[true,true,true,true,true,true,true,true,true,true,true,true,true,true,true,true,true,true,true,true,true,true,true,true,true,false,false] rfl rfl (any_of HT_.out (by kernel_rfl)) (fun _ _ _ h => h) (Or.inl ⟨by rfl,?_⟩) ?_ ?_
                 rotate_left
                 ·intro w'
                  go_simp
                  with_reducible rfl
                 rotate_left
                 ·simp only [Act.put,List.setIfInBounds_toArray,List.set_cons_zero,List.set_cons_succ,i64_w,i32_w]
                  rfl
                 refine pure_ (i := 25) (N := some 62) (v := ?_) (a' := ?_) #[true,true,true,true,true,true,true,true,true,true,true,true,true,true,true,true,true,true,true,true,true,true,true,true,true,true,false] rfl rfl (any_of HT_.out (by kernel_rfl)) (fun _ _ _ h => h) (Or.inl ⟨by rfl,?_⟩) ?_ ?_
                 rotate_left
                 ·intro w'
                  go_simp
                  with_reducible rfl
                 rotate_left
                 ·simp only [Act.put,List.setIfInBounds_toArray,List.set_cons_zero,List.set_cons_succ,i64_w,i32_w]
                  rfl
                 refine last_ (i := 26) (N := none) #[true,true,true,true,true,true,true,true,true,true,true,true,true,true,true,true,true,true,true,true,true,true,true,true,true,true,true] rfl rfl (one_of HT_.out (by kernel_rfl)) (by decide) (fun K hK => ?_)
                 refine skip_ (w1 := ?_) (by rfl) rfl ?_ ?_
                 rotate_left
                 ·go_simp
                  rfl
                 refine hK.out _ _ ?_
                 clear hK K
                 refine done_ (done_of HT_.out (by kernel_rfl)) ?_
                 try go_wp2
                 go_roundg k2
                 case measure => have := HK1.out; have := HK2.out; omega
                 case rel => exact ⟨(y195),(wrap64 (x5_2 + 1)),(by first | rfl | (simp; done) | (simp [*]; done)),H',⟨by have := HK1.out; have := HK2.out; omega⟩,⟨by (with_reducible repeat (first | apply Kd.R_alloc | apply Kd.R_drewN | apply Kd.R_drew)); exact HQ25.out⟩,⟨by (with_reducible repeat (first | refine zN ?_ _ | refine zD ?_ | refine zA ?_ _)); refine blk_far ?_ (by have h_ := Kd.R_ne HO_3.out BK183.out (by decide); intro e_; exact h_ (by rw [e_]; rfl)) _; (with_reducible repeat (first | refine zN ?_ _ | refine zD ?_ | refine zA ?_ _)); first | exact BK183.out | (simp only [*]; exact BK183.out)⟩,⟨by repeat (first | (with_reducible first | exact HB.out | apply yA | apply yN | apply yD | refine yS ?_ GB21.out | refine yS ?_ GE183.out) | exact HB.out)⟩⟩
                ·rw [if_neg c20] at H
                 exact absurd H (by simp)
               ·rw [if_neg c19] at H
                exact absurd H (by simp)
              ·rw [if_neg c18] at H
               exact absurd H (by simp)
             ·rw [if_neg c17] at H;have c17b0 : decide (x5_2 < (((rd_T34 l0_0 x4_1).f8).length : Int)) = false := decide_eq_false c17;clear c17;have H' := Aside0.mk H;clear H;have hcz26 := pk1 BK183.out;have p189 : 0 ≤ (x4_1 : Int) := od_ (by first | (with_reducible assumption) | assumption);have q189 : x4_1 < (l0_0.length : Int) := od_ (by first | (with_reducible assumption) | assumption);obtain ⟨ad189,A189_8,c189_8,e189,hx189_0,hx189_1,hx189_2,hx189_3,hx189_4,hx189_5,hx189_6,hx189_7,hx189_8,hl189_8,hi189_8⟩ := at_T34 HR0_0.out x4_1 p189 q189;obtain rfl : ad187 = ad189 := (by injection e189);replace hx189_0 := bc_ HB hx189_0;replace hx189_1 := bc_ HB hx189_1;replace hx189_2 := bc_ HB hx189_2;replace hx189_3 := bc_ HB hx189_3;replace hx189_4 := bc_ HB hx189_4;replace hx189_5 := bc_ HB hx189_5;replace hx189_6 := bc_ HB hx189_6;replace hx189_7 := bc_ HB hx189_7;replace hx189_8 := bc_ HB hx189_8;have HR189_8 := Aside0.mk hi189_8;have HC189_8 := Aside0.mk hl189_8;clear hi189_8 hl189_8;replace p189 := eq_true p189;replace q189 := eq_true q189
              go_wp2
              go_roundg k2
              case measure => have := HK1.out; have := HK2.out; omega
              case rel => exact ⟨(x3_2),(wrap64 (x4_1 + 1)),(by first | rfl | (simp; done) | (simp [*]; done)),H',⟨by have := HK1.out; have := HK2.out; omega⟩,⟨by (with_reducible repeat (first | apply Kd.R_alloc | apply Kd.R_drewN | apply Kd.R_drew)); exact HO_3.out⟩,⟨by (with_reducible repeat (first | refine zN ?_ _ | refine zD ?_ | refine zA ?_ _)); first | exact BK183.out | (simp only [*]; exact BK183.out)⟩,⟨by repeat (first | (with_reducible first | exact HB.out | apply yA | apply yN | apply yD | refine yS ?_ GE183.out) | exact HB.out)⟩⟩
            ·rw [if_neg c16] at H
             exact absurd H (by simp)
           ·rw [if_neg c15] at H
            exact absurd H (by simp)
        ·replace c12 := Bool.eq_false_iff.mpr c12;subst c12;(have H1 : (some false) = some r := by rw [if_neg (show ¬ (false = true) by decide)] at H; exact H);clear H;have H := H1;clear H1;obtain rfl := Option.some.inj H
         simp only [Option.some.injEq,Prod.mk.injEq] at H
         obtain ⟨rfl⟩ := H;have hcz27 := pk1 BK183.out;have p187 : 0 ≤ (x4_1 : Int) := od_ (by first | (with_reducible assumption) | assumption);have q187 : x4_1 < (l0_0.length : Int) := od_ (by first | (with_reducible assumption) | assumption);obtain ⟨ad187,A187_8,c187_8,e187,hx187_0,hx187_1,hx187_2,hx187_3,hx187_4,hx187_5,hx187_6,hx187_7,hx187_8,hl187_8,hi187_8⟩ := at_T34 HR0_0.out x4_1 p187 q187
         cases e187
         replace hx187_0 := bc_ HB hx187_0;replace hx187_1 := bc_ HB hx187_1;replace hx187_2 := bc_ HB hx187_2;replace hx187_3 := bc_ HB hx187_3;replace hx187_4 := bc_ HB hx187_4;replace hx187_5 := bc_ HB hx187_5;replace hx187_6 := bc_ HB hx187_6;replace hx187_7 := bc_ HB hx187_7;replace hx187_8 := bc_ HB hx187_8;have HR187_8 := Aside0.mk hi187_8;have HC187_8 := Aside0.mk hl187_8;clear hi187_8 hl187_8;replace p187 := eq_true p187;replace q187 := eq_true q187
         go_wp2_with (first | ((with_reducible refine gate_callee (f := 40) rfl ?_); refine goesL_ (some 24) rfl rfl Try.func40 (by kernel_rfl) rfl #[.agg #[.int .i64 ((rd_T34 l0_0 x4_1).f0),.int .i64 ((rd_T34 l0_0 x4_1).f1),.int .i64 ((rd_T34 l0_0 x4_1).f2),.int .i64 ((rd_T34 l0_0 x4_1).f3),.int .i64 ((rd_T34 l0_0 x4_1).f4),.int .i64 ((rd_T34 l0_0 x4_1).f5),.bool ((rd_T34 l0_0 x4_1).f6),.string ((rd_T34 l0_0 x4_1).f7),.slice A187_8 ((rd_T34 l0_0 x4_1).f8).length c187_8]] rfl (by (try simp only [List.map_toArray,List.map_cons,List.map_nil]); first | done | rfl | (simp only [List.length_drop,List.length_take]; rfl)) ?_; (with_reducible refine (spec_l7Inode.calls k1 ((rd_T34 l0_0 x4_1).f0) ((rd_T34 l0_0 x4_1).f1) ((rd_T34 l0_0 x4_1).f2) ((rd_T34 l0_0 x4_1).f3) ((rd_T34 l0_0 x4_1).f4) ((rd_T34 l0_0 x4_1).f5) ((rd_T34 l0_0 x4_1).f6) ((rd_T34 l0_0 x4_1).f7) _ _ ((rd_T34 l0_0 x4_1).f8) false _ ?side1 ?side2 A11.out).mono ?_); (case side1 => repeat (first | exact (Kd.C_below HR187_8.out HB.out) | (with_reducible refine Kd.C_alloc ?_ _) | (with_reducible refine Kd.C_drewN ?_ _) | (with_reducible refine Kd.C_drew ?_))); (case side2 => exact HC187_8.out); rintro e w28 ⟨rfl,hb⟩; refine ⟨_,rfl,?_⟩; have n0_ := Aside0.mk (Kd.R_below (by (with_reducible repeat (first | apply Kd.R_alloc | apply Kd.R_drewN | apply Kd.R_drew)); exact HO_3.out) hb); have n1_ := Aside0.mk (blk_below (g := gb183) (o := .cells #[.slice (some ad187) l0_0.length c0_0] 27 (0,0)) (by (with_reducible repeat (first | refine zN ?_ _ | refine zD ?_ | refine zA ?_ _)); exact BK183.out) hb); have n2_ := Aside0.mk (below_step (by repeat (first | (with_reducible first | exact HB.out | apply yA | apply yN | apply yD | refine yS ?_ GE183.out) | exact HB.out)) hb); clear HO_3; clear BK183; clear HB; have HO_3 := n0_; have BK183 := n1_; have HB := n2_; clear n0_ n1_ n2_; (try clear hb); (try clear hb2); (try clear hk); (try clear hi)))
         go_ret
         exact ⟨by first | rfl | (simp [errW_none,errW_some] <;> rfl) | (simp [*,errW_none,errW_some] <;> rfl),by repeat (first | (with_reducible first | exact HB.out | apply yA | apply yN | apply yD | refine yS ?_ GE183.out) | exact HB.out)⟩
       ·rw [if_neg c10] at H
        exact absurd H (by simp)
      ·rw [if_neg c9] at H
       exact absurd H (by simp)
     ·rw [if_neg c8] at H;have c8b0 : decide (x4_1 < 10) = false := decide_eq_false c8;clear c8;by_cases c29 : 0 < (l0_0.length : Int)
      ·rw [if_pos c29] at H;have c29b0 : decide (0 < (l0_0.length : Int)) = true := decide_eq_true c29;have c29b1 : decide (0 < l0_0.length) = true := decide_eq_true (by omega);clear c29;by_cases c30 : ((rd_T34 l0_0 0).f0) = 2
       ·rw [if_pos c30] at H;have c30b0 : (((rd_T34 l0_0 0).f0) == 2) = true := beq_iff_eq.mpr c30;have c30b1 : (((rd_T34 l0_0 0).f0) != 2) = false := bne_eq_false_iff_eq.mpr c30;have c30b2 : (((rd_T34 l0_0 0).f0) == 1) = false := beq_eq_false_iff_ne.mpr (by omega);have c30b3 : (((rd_T34 l0_0 0).f0) != 1) = true := bne_iff_ne.mpr (by omega);clear c30;replace H := Option.bind_eq_some_iff.mp H;obtain ⟨⟨t197,t200⟩,A310,H⟩ := H;replace H : (spec_FsOk.l2 k1 x3_1 t197 t200 0 l0_0) = some r := H;have A31 := Aside0.mk A310;clear A310;have H' := Aside0.mk H;clear H;have hcz32 := pk1 BK183.out;have p196 : 0 ≤ (0 : Int) := (by omega);have q196 : 0 < (l0_0.length : Int) := od_ (by first | (with_reducible assumption) | assumption);obtain ⟨ad196,A196_8,c196_8,e196,hx196_0,hx196_1,hx196_2,hx196_3,hx196_4,hx196_5,hx196_6,hx196_7,hx196_8,hl196_8,hi196_8⟩ := at_T34 HR0_0.out 0 p196 q196
        cases e196
        have qi196 : (0 < l0_0.length) = True := eq_true (by omega);(try rw [show ((0 : Int)).toNat = 0 from rfl] at hx196_0);(try rw [show 0 * 9 = 0 from rfl] at hx196_0);(try rw [Addr.add_zero'] at hx196_0);(try rw [show ((0 : Int)).toNat = 0 from rfl] at hx196_1);(try rw [show 0 * 9 = 0 from rfl] at hx196_1);(try rw [Addr.add_zero'] at hx196_1);(try rw [show ((0 : Int)).toNat = 0 from rfl] at hx196_2);(try rw [show 0 * 9 = 0 from rfl] at hx196_2);(try rw [Addr.add_zero'] at hx196_2);(try rw [show ((0 : Int)).toNat = 0 from rfl] at hx196_3);(try rw [show 0 * 9 = 0 from rfl] at hx196_3);(try rw [Addr.add_zero'] at hx196_3);(try rw [show ((0 : Int)).toNat = 0 from rfl] at hx196_4);(try rw [show 0 * 9 = 0 from rfl] at hx196_4);(try rw [Addr.add_zero'] at hx196_4);(try rw [show ((0 : Int)).toNat = 0 from rfl] at hx196_5);(try rw [show 0 * 9 = 0 from rfl] at hx196_5);(try rw [Addr.add_zero'] at hx196_5);(try rw [show ((0 : Int)).toNat = 0 from rfl] at hx196_6);(try rw [show 0 * 9 = 0 from rfl] at hx196_6);(try rw [Addr.add_zero'] at hx196_6);(try rw [show ((0 : Int)).toNat = 0 from rfl] at hx196_7);(try rw [show 0 * 9 = 0 from rfl] at hx196_7);(try rw [Addr.add_zero'] at hx196_7);(try rw [show ((0 : Int)).toNat = 0 from rfl] at hx196_8);(try rw [show 0 * 9 = 0 from rfl] at hx196_8);(try rw [Addr.add_zero'] at hx196_8);replace hx196_0 := bc_ HB hx196_0;replace hx196_1 := bc_ HB hx196_1;replace hx196_2 := bc_ HB hx196_2
        replace hx196_3 := bc_ HB hx196_3;replace hx196_4 := bc_ HB hx196_4;replace hx196_5 := bc_ HB hx196_5;replace hx196_6 := bc_ HB hx196_6;replace hx196_7 := bc_ HB hx196_7;replace hx196_8 := bc_ HB hx196_8;have HR196_8 := Aside0.mk hi196_8;have HC196_8 := Aside0.mk hl196_8;clear hi196_8 hl196_8;replace p196 := eq_true p196;replace q196 := eq_true q196
        go_wp2_with (first | ((with_reducible refine gate_callee (f := 41) rfl ?_); refine goesL_ (some 71) rfl rfl Try.func41 (by kernel_rfl) rfl #[.agg #[.slice (some ad196) l0_0.length c0_0]] rfl (by (try simp only [List.map_toArray,List.map_cons,List.map_nil]); first | done | rfl | (simp only [List.length_drop,List.length_take]; rfl)) ?_; (with_reducible refine (spec_l7Folders.calls k1 _ _ l0_0 t197 t200 _ ?side1 ?side2 A31.out).mono ?_); (case side1 => repeat (first | exact (Kd.C_below HR0_0.out HB.out) | (with_reducible refine Kd.C_alloc ?_ _) | (with_reducible refine Kd.C_drewN ?_ _) | (with_reducible refine Kd.C_drew ?_))); (case side2 => exact HC0_0.out); rintro e w33 ⟨v198,rfl,ho0,hb⟩; refine ⟨_,rfl,?_⟩; have n0_ := Aside0.mk (Kd.R_below (by (with_reducible repeat (first | apply Kd.R_alloc | apply Kd.R_drewN | apply Kd.R_drew)); exact HO_3.out) hb); have n1_ := Aside0.mk (Kd.R_lower ho0 (below_size (by repeat (first | (with_reducible first | exact HB.out | apply yA | apply yN | apply yD | refine yS ?_ GE183.out) | exact HB.out)))); have n2_ := Aside0.mk (blk_below (g := gb183) (o := .cells #[.slice (some ad196) l0_0.length c0_0] 27 (0,0)) (by (with_reducible repeat (first | refine zN ?_ _ | refine zD ?_ | refine zA ?_ _)); exact BK183.out) hb); have n3_ := Aside0.mk (below_step (by repeat (first | (with_reducible first | exact HB.out | apply yA | apply yN | apply yD | refine yS ?_ GE183.out) | exact HB.out)) hb); clear HO_3; clear BK183; clear HB; have HO_3 := n0_; have HO199 := n1_; have BK183 := n2_; have HB := n3_; clear n0_ n1_ n2_ n3_; (try clear hb); (try clear hb2); (try clear hk); (try clear hi); (try clear ho0)))
        go_loopg [8] k1 (fun kq v8 w' => ∃ (x8_2 : Int),v8 = .int .i64 x8_2 ∧ Aside0 (spec_FsOk.l2 kq x3_1 t197 t200 x8_2 l0_0 = some r) ∧ Aside0 (kq ≤ k1) ∧ Aside0 (Kd.R (Kd.int .i64) 3 w' w.heap.size (fun _ => True) v185 x3_1) ∧ Aside0 (Kd.R Kd.bool 4 w' w.heap.size (fun _ => True) v198 t197) ∧ Aside0 (w'.heap[gb183]? = some (.cells #[(.slice (some ad196) l0_0.length c0_0)] 27 (0,0))) ∧ Aside0 (Below w.heap.size w w'))
        case atStart => exact ⟨(0),(by first | rfl | (simp; done) | (simp [*]; done)),H',⟨Nat.le_refl _⟩,⟨by (with_reducible repeat (first | apply Kd.R_alloc | apply Kd.R_drewN | apply Kd.R_drew)); exact HO_3.out⟩,⟨by (with_reducible repeat (first | apply Kd.R_alloc | apply Kd.R_drewN | apply Kd.R_drew)); exact HO199.out⟩,⟨by (with_reducible repeat (first | refine zN ?_ _ | refine zD ?_ | refine zA ?_ _)); first | exact BK183.out | (simp only [*]; exact BK183.out)⟩,⟨by repeat (first | (with_reducible first | exact HB.out | apply yA | apply yN | apply yD | refine yS ?_ GE183.out) | exact HB.out)⟩⟩
        case round =>
         clear H';(try clear c1);(try clear p1);(try clear q1);(try clear hx1);(try clear qi1);(try clear c2);(try clear c2b0);(try clear c2b1);(try clear c2b2);(try clear p2);(try clear q2);(try clear hx2);(try clear hf2);(try clear c3);(try clear c3b0);(try clear c3b1);(try clear c4);(try clear p6);(try clear c8);(try clear c8b0);(try clear c9);(try clear c9b0);(try clear c10);(try clear c10b0);(try clear c12);(try clear c15);(try clear c15b0);(try clear c16);(try clear c16b0);(try clear c17);(try clear c17b0);(try clear c18);(try clear c18b0);(try clear p18);(try clear q18);(try clear hx18);(try clear c19);(try clear c19b0);(try clear p19);(try clear q19);(try clear hx19);(try clear qi19);(try clear c20);(try clear c20b0);(try clear p21);(try clear q21);(try clear hx21);(try clear hf21);(try clear c29);(try clear c29b0);(try clear c29b1);(try clear c30);(try clear c30b0);(try clear c30b1);(try clear c30b2);(try clear hcz13);(try clear hcz22);(try clear hcz26);(try clear hcz27);(try clear hcz32);(try clear hcz5);(try clear hx187_0);(try clear hx187_1);(try clear hx187_2);(try clear hx187_3);(try clear hx187_4);(try clear hx187_5);(try clear hx187_6);(try clear hx187_7);(try clear hx187_8);(try clear hx189_0);(try clear hx189_1);(try clear hx189_2);(try clear hx189_3);(try clear hx189_4);(try clear hx189_5);(try clear hx189_6);(try clear hx189_7);(try clear hx189_8);(try clear hx190_0);(try clear hx190_1);(try clear hx190_2);(try clear hx190_3);(try clear hx190_4);(try clear hx190_5)
         (try clear hx190_6);(try clear hx190_7);(try clear hx190_8);(try clear hx191_0);(try clear hx191_1);(try clear hx192_0);(try clear hx192_1);(try clear hx192_2);(try clear hx192_3);(try clear hx192_4);(try clear hx192_5);(try clear hx192_6);(try clear hx192_7);(try clear hx192_8);(try clear hx193_0);(try clear hx193_1);(try clear hx194_0);(try clear hx196_0);(try clear hx196_1);(try clear hx196_2);(try clear hx196_3);(try clear hx196_4);(try clear hx196_5);(try clear hx196_6);(try clear hx196_7);(try clear hx196_8);(try clear hx21_0);(try clear p1);(try clear p187);(try clear p189);(try clear p190);(try clear p191);(try clear p192);(try clear p193);(try clear p194);(try clear p196);(try clear p2);(try clear p21);(try clear q1);(try clear q187);(try clear q189);(try clear q190);(try clear q191);(try clear q192);(try clear q193);(try clear q194);(try clear q196);(try clear q21);obtain ⟨x8_2,rfl,HA,HK2,HO_3,HO_6,BK183,HB⟩ := hrel
         cases gk with
         | zero => exact absurd HA.out (by simp [spec_FsOk.l2])
         | succ k2 =>
          have H := HA.out;clear HA
          simp only [spec_FsOk.l2] at H
          by_cases c34 : x8_2 < 10
          ·rw [if_pos c34] at H;have c34b0 : decide (x8_2 < 10) = true := decide_eq_true c34;clear c34;by_cases c35 : t200 = true
           ·subst c35;(have H1 : (if 0 ≤ x8_2 then (if x8_2 < (l0_0.length : Int) then (if x8_2 < (x3_1.length : Int) then (if (rd x3_1 x8_2) > 0 then (if ((rd_T34 l0_0 x8_2).f0) = 0 then (spec_FsOk.j3 k2 x3_1 t197 true x8_2 true l0_0) else (if ((rd_T34 l0_0 x8_2).f4) = (rd x3_1 x8_2) then (if ((rd_T34 l0_0 x8_2).f0) = 2 then (if x8_2 < (t197.length : Int) then (if rdOf false t197 x8_2 = true then (spec_FsOk.j3 k2 x3_1 t197 true x8_2 false l0_0) else (spec_FsOk.j3 k2 x3_1 t197 true x8_2 true l0_0)) else (none)) else (if ((rd_T34 l0_0 x8_2).f0) = 1 then (if ((rd_T34 l0_0 x8_2).f4) = 0 then (spec_FsOk.j3 k2 x3_1 t197 true x8_2 (((rd_T34 l0_0 x8_2).f5) == 0) l0_0) else (spec_FsOk.j3 k2 x3_1 t197 true x8_2 false l0_0)) else (spec_FsOk.j3 k2 x3_1 t197 true x8_2 false l0_0))) else (spec_FsOk.j3 k2 x3_1 t197 true x8_2 true l0_0))) else (if ((rd_T34 l0_0 x8_2).f0) = 0 then (spec_FsOk.j3 k2 x3_1 t197 true x8_2 false l0_0) else (if ((rd_T34 l0_0 x8_2).f4) = (rd x3_1 x8_2) then (if ((rd_T34 l0_0 x8_2).f0) = 2 then (if x8_2 < (t197.length : Int) then (if rdOf false t197 x8_2 = true then (spec_FsOk.j3 k2 x3_1 t197 true x8_2 false l0_0) else (spec_FsOk.j3 k2 x3_1 t197 true x8_2 true l0_0)) else (none)) else (if ((rd_T34 l0_0 x8_2).f0) = 1 then (if ((rd_T34 l0_0 x8_2).f4) = 0 then (spec_FsOk.j3 k2 x3_1 t197 true x8_2 (((rd_T34 l0_0 x8_2).f5) == 0) l0_0) else (spec_FsOk.j3 k2 x3_1 t197 true x8_2 false l0_0)) else (spec_FsOk.j3 k2 x3_1 t197 true x8_2 false l0_0))) else (spec_FsOk.j3 k2 x3_1 t197 true x8_2 true l0_0)))) else (none)) else (none)) else (none)) = some r := by rw [if_pos rfl] at H; exact H)
            clear H;have H := H1;clear H1;by_cases c36 : 0 ≤ x8_2
            ·rw [if_pos c36] at H;have c36b0 : decide (0 ≤ x8_2) = true := decide_eq_true c36;clear c36;by_cases c37 : x8_2 < (l0_0.length : Int)
             ·rw [if_pos c37] at H;have c37b0 : decide (x8_2 < (l0_0.length : Int)) = true := decide_eq_true c37;clear c37;have HC38 := Aside0.mk H;clear H;have hcz39 := pk1 BK183.out;have p201 : 0 ≤ (x8_2 : Int) := od_ (by first | (with_reducible assumption) | assumption);have q201 : x8_2 < (l0_0.length : Int) := od_ (by first | (with_reducible assumption) | assumption);obtain ⟨ad201,A201_8,c201_8,e201,hx201_0,hx201_1,hx201_2,hx201_3,hx201_4,hx201_5,hx201_6,hx201_7,hx201_8,hl201_8,hi201_8⟩ := at_T34 HR0_0.out x8_2 p201 q201;obtain rfl : ad196 = ad201 := (by injection e201);replace hx201_0 := bc_ HB hx201_0;replace hx201_1 := bc_ HB hx201_1;replace hx201_2 := bc_ HB hx201_2;replace hx201_3 := bc_ HB hx201_3;replace hx201_4 := bc_ HB hx201_4;replace hx201_5 := bc_ HB hx201_5;replace hx201_6 := bc_ HB hx201_6;replace hx201_7 := bc_ HB hx201_7;replace hx201_8 := bc_ HB hx201_8;have HR201_8 := Aside0.mk hi201_8;have HC201_8 := Aside0.mk hl201_8;clear hi201_8 hl201_8;replace p201 := eq_true p201;replace q201 := eq_true q201
              go_upto_region 20 with (first | ((with_reducible refine gate_dst (N := 9) rfl ?_); refine box_event ?hg (N := 9) ?hd (cs := #[.int .i64 0,.int .i64 0,.int .i64 0,.int .i64 0,.int .i64 0,.int .i64 0,.bool false,.string (⟨#[]⟩ : ByteArray),.slice none 0 0]) (t := 34) ?hr ?_; (case hd => rfl); (case hg => rfl); (case hr => first | (go_simp; done) | (go_simp; rfl)); intro gb202 hg w40 hbox hb; have n0_ := Aside0.mk (Kd.R_below (by (with_reducible repeat (first | apply Kd.R_alloc | apply Kd.R_drewN | apply Kd.R_drew)); exact HO_3.out) hb); have n1_ := Aside0.mk (Kd.R_below (by (with_reducible repeat (first | apply Kd.R_alloc | apply Kd.R_drewN | apply Kd.R_drew)); exact HO_6.out) hb); have n2_ := Aside0.mk (blk_below (g := gb183) (o := .cells #[.slice (some ad196) l0_0.length c0_0] 27 (0,0)) (by (with_reducible repeat (first | refine zN ?_ _ | refine zD ?_ | refine zA ?_ _)); exact BK183.out) hb); have n3_ := Aside0.mk (below_step (by repeat (first | (with_reducible first | exact HB.out | apply yA | apply yN | apply yD | refine yS ?_ GE183.out) | exact HB.out)) hb); have n4_ := Aside0.mk (hbox); have n5_ := Aside0.mk ((by rw [hg]; exact (below_size (by repeat (first | (with_reducible first | exact HB.out | apply yA | apply yN | apply yD | refine yS ?_ GE183.out) | exact HB.out))) : w.heap.size ≤ gb202)); have n6_ := Aside0.mk ((by rw [hg]; exact (below_size (by repeat (first | (with_reducible first | exact HB.out | apply yA | apply yN | apply yD | refine yS ?_ GE183.out) | exact HB.out))) : w.heap.size ≤ gb202)); have n7_ := Aside0.mk ((by rw [hg]; exact Nat.ne_of_lt (blk_lt (g := gb183) (o := .cells #[.slice (some ad196) l0_0.length c0_0] 27 (0,0)) (by (with_reducible repeat (first | refine zN ?_ _ | refine zD ?_ | refine zA ?_ _)); exact BK183.out)) : gb183 ≠ gb202)); have n8_ := Aside0.mk ((by rw [hg]; exact Nat.ne_of_gt (blk_lt (g := gb183) (o := .cells #[.slice (some ad196) l0_0.length c0_0] 27 (0,0)) (by (with_reducible repeat (first | refine zN ?_ _ | refine zD ?_ | refine zA ?_ _)); exact BK183.out)) : gb202 ≠ gb183)); clear HO_3; clear HO_6; clear BK183; clear HB; have HO_3 := n0_; have HO_6 := n1_; have BK183 := n2_; have HB := n3_; have BK202 := n4_; have GW202 := n5_; have GE202 := n6_; have NB183_202 := n7_; have NB202_183 := n8_; clear n0_ n1_ n2_ n3_ n4_ n5_ n6_ n7_ n8_; clear hb hbox hg; have hnb41 := NB202_183.out; have hnc41 := NB183_202.out; have hcz42 := pk9 BK202.out))
              (try simp only [Act.put,List.setIfInBounds_toArray,List.set_cons_zero,List.set_cons_succ])
              go_cut [136] (fun v136 wc => ∃ (kq : Nat) (x136_37 : Bool),v136 = .bool x136_37 ∧ Aside0 (spec_FsOk.j3 kq x3_1 t197 true x8_2 x136_37 l0_0 = some r) ∧ Aside0 (kq ≤ k2) ∧ Aside0 (Kd.R (Kd.int .i64) 3 wc w.heap.size (fun _ => True) v185 x3_1) ∧ Aside0 (Kd.R Kd.bool 4 wc w.heap.size (fun _ => True) v198 t197) ∧ Aside0 (wc.heap[gb183]? = some (.cells #[(.slice (some ad196) l0_0.length c0_0)] 27 (0,0))) ∧ Aside0 (wc.heap[gb202]? = some (.cells #[.int .i64 ((rd_T34 l0_0 x8_2).f0),.int .i64 ((rd_T34 l0_0 x8_2).f1),.int .i64 ((rd_T34 l0_0 x8_2).f2),.int .i64 ((rd_T34 l0_0 x8_2).f3),.int .i64 ((rd_T34 l0_0 x8_2).f4),.int .i64 ((rd_T34 l0_0 x8_2).f5),.bool ((rd_T34 l0_0 x8_2).f6),.string ((rd_T34 l0_0 x8_2).f7),(.slice A201_8 ((rd_T34 l0_0 x8_2).f8).length c201_8)] 34 (0,0))) ∧ Aside0 (Below w.heap.size w wc))
              case first =>
               have H := HC38.out;clear HC38;have n0_ : Aside0 (Kd.R (Kd.int .i64) 3 (((((((((w40.setCell ⟨gb202,0,none⟩ (.int .i64 ((rd_T34 l0_0 x8_2).f0))).setCell ⟨gb202,1,none⟩ (.int .i64 ((rd_T34 l0_0 x8_2).f1))).setCell ⟨gb202,2,none⟩ (.int .i64 ((rd_T34 l0_0 x8_2).f2))).setCell ⟨gb202,3,none⟩ (.int .i64 ((rd_T34 l0_0 x8_2).f3))).setCell ⟨gb202,4,none⟩ (.int .i64 ((rd_T34 l0_0 x8_2).f4))).setCell ⟨gb202,5,none⟩ (.int .i64 ((rd_T34 l0_0 x8_2).f5))).setCell ⟨gb202,6,none⟩ (.bool ((rd_T34 l0_0 x8_2).f6))).setCell ⟨gb202,7,none⟩ (.string ((rd_T34 l0_0 x8_2).f7))).setCell ⟨gb202,8,none⟩ (.slice A201_8 ((rd_T34 l0_0 x8_2).f8).length c201_8)) w.heap.size (fun _ => True) v185 x3_1) := ⟨by (with_reducible repeat (first | apply Kd.R_alloc | apply Kd.R_drewN | apply Kd.R_drew)); exact Kd.R_mono (Kd.R_far (p := ⟨gb202,8,none⟩) (Kd.R_far (p := ⟨gb202,7,none⟩) (Kd.R_far (p := ⟨gb202,6,none⟩) (Kd.R_far (p := ⟨gb202,5,none⟩) (Kd.R_far (p := ⟨gb202,4,none⟩) (Kd.R_far (p := ⟨gb202,3,none⟩) (Kd.R_far (p := ⟨gb202,2,none⟩) (Kd.R_far (p := ⟨gb202,1,none⟩) (Kd.R_far (p := ⟨gb202,0,none⟩) (Kd.R_types HO_3.out BK202.out (by decide)) (fun _ hk => hk.2) (.int .i64 ((rd_T34 l0_0 x8_2).f0))) (fun _ hk => hk.2) (.int .i64 ((rd_T34 l0_0 x8_2).f1))) (fun _ hk => hk.2) (.int .i64 ((rd_T34 l0_0 x8_2).f2))) (fun _ hk => hk.2) (.int .i64 ((rd_T34 l0_0 x8_2).f3))) (fun _ hk => hk.2) (.int .i64 ((rd_T34 l0_0 x8_2).f4))) (fun _ hk => hk.2) (.int .i64 ((rd_T34 l0_0 x8_2).f5))) (fun _ hk => hk.2) (.bool ((rd_T34 l0_0 x8_2).f6))) (fun _ hk => hk.2) (.string ((rd_T34 l0_0 x8_2).f7))) (fun _ hk => hk.2) (.slice A201_8 ((rd_T34 l0_0 x8_2).f8).length c201_8)) (fun _ hk => trivial)⟩
               have n1_ : Aside0 (Kd.R Kd.bool 4 (((((((((w40.setCell ⟨gb202,0,none⟩ (.int .i64 ((rd_T34 l0_0 x8_2).f0))).setCell ⟨gb202,1,none⟩ (.int .i64 ((rd_T34 l0_0 x8_2).f1))).setCell ⟨gb202,2,none⟩ (.int .i64 ((rd_T34 l0_0 x8_2).f2))).setCell ⟨gb202,3,none⟩ (.int .i64 ((rd_T34 l0_0 x8_2).f3))).setCell ⟨gb202,4,none⟩ (.int .i64 ((rd_T34 l0_0 x8_2).f4))).setCell ⟨gb202,5,none⟩ (.int .i64 ((rd_T34 l0_0 x8_2).f5))).setCell ⟨gb202,6,none⟩ (.bool ((rd_T34 l0_0 x8_2).f6))).setCell ⟨gb202,7,none⟩ (.string ((rd_T34 l0_0 x8_2).f7))).setCell ⟨gb202,8,none⟩ (.slice A201_8 ((rd_T34 l0_0 x8_2).f8).length c201_8)) w.heap.size (fun _ => True) v198 t197) := ⟨by (with_reducible repeat (first | apply Kd.R_alloc | apply Kd.R_drewN | apply Kd.R_drew)); exact Kd.R_mono (Kd.R_far (p := ⟨gb202,8,none⟩) (Kd.R_far (p := ⟨gb202,7,none⟩) (Kd.R_far (p := ⟨gb202,6,none⟩) (Kd.R_far (p := ⟨gb202,5,none⟩) (Kd.R_far (p := ⟨gb202,4,none⟩) (Kd.R_far (p := ⟨gb202,3,none⟩) (Kd.R_far (p := ⟨gb202,2,none⟩) (Kd.R_far (p := ⟨gb202,1,none⟩) (Kd.R_far (p := ⟨gb202,0,none⟩) (Kd.R_types HO_6.out BK202.out (by decide)) (fun _ hk => hk.2) (.int .i64 ((rd_T34 l0_0 x8_2).f0))) (fun _ hk => hk.2) (.int .i64 ((rd_T34 l0_0 x8_2).f1))) (fun _ hk => hk.2) (.int .i64 ((rd_T34 l0_0 x8_2).f2))) (fun _ hk => hk.2) (.int .i64 ((rd_T34 l0_0 x8_2).f3))) (fun _ hk => hk.2) (.int .i64 ((rd_T34 l0_0 x8_2).f4))) (fun _ hk => hk.2) (.int .i64 ((rd_T34 l0_0 x8_2).f5))) (fun _ hk => hk.2) (.bool ((rd_T34 l0_0 x8_2).f6))) (fun _ hk => hk.2) (.string ((rd_T34 l0_0 x8_2).f7))) (fun _ hk => hk.2) (.slice A201_8 ((rd_T34 l0_0 x8_2).f8).length c201_8)) (fun _ hk => trivial)⟩
               have n2_ : Aside0 ((((((((((w40.setCell ⟨gb202,0,none⟩ (.int .i64 ((rd_T34 l0_0 x8_2).f0))).setCell ⟨gb202,1,none⟩ (.int .i64 ((rd_T34 l0_0 x8_2).f1))).setCell ⟨gb202,2,none⟩ (.int .i64 ((rd_T34 l0_0 x8_2).f2))).setCell ⟨gb202,3,none⟩ (.int .i64 ((rd_T34 l0_0 x8_2).f3))).setCell ⟨gb202,4,none⟩ (.int .i64 ((rd_T34 l0_0 x8_2).f4))).setCell ⟨gb202,5,none⟩ (.int .i64 ((rd_T34 l0_0 x8_2).f5))).setCell ⟨gb202,6,none⟩ (.bool ((rd_T34 l0_0 x8_2).f6))).setCell ⟨gb202,7,none⟩ (.string ((rd_T34 l0_0 x8_2).f7))).setCell ⟨gb202,8,none⟩ (.slice A201_8 ((rd_T34 l0_0 x8_2).f8).length c201_8)).heap[gb183]? = some (.cells #[.slice (some ad196) l0_0.length c0_0] 27 (0,0))) := ⟨by (with_reducible repeat (first | refine zN ?_ _ | refine zD ?_ | refine zA ?_ _)); refine blk_far ?_ NB183_202.out _; (with_reducible repeat (first | refine zN ?_ _ | refine zD ?_ | refine zA ?_ _)); refine blk_far ?_ NB183_202.out _; (with_reducible repeat (first | refine zN ?_ _ | refine zD ?_ | refine zA ?_ _)); refine blk_far ?_ NB183_202.out _; (with_reducible repeat (first | refine zN ?_ _ | refine zD ?_ | refine zA ?_ _)); refine blk_far ?_ NB183_202.out _; (with_reducible repeat (first | refine zN ?_ _ | refine zD ?_ | refine zA ?_ _)); refine blk_far ?_ NB183_202.out _; (with_reducible repeat (first | refine zN ?_ _ | refine zD ?_ | refine zA ?_ _)); refine blk_far ?_ NB183_202.out _; (with_reducible repeat (first | refine zN ?_ _ | refine zD ?_ | refine zA ?_ _)); refine blk_far ?_ NB183_202.out _; (with_reducible repeat (first | refine zN ?_ _ | refine zD ?_ | refine zA ?_ _)); refine blk_far ?_ NB183_202.out _; (with_reducible repeat (first | refine zN ?_ _ | refine zD ?_ | refine zA ?_ _)); refine blk_far ?_ NB183_202.out _; (with_reducible repeat (first | refine zN ?_ _ | refine zD ?_ | refine zA ?_ _)); first | exact BK183.out | (simp only [*]; exact BK183.out)⟩
               have n3_ : Aside0 ((((((((((w40.setCell ⟨gb202,0,none⟩ (.int .i64 ((rd_T34 l0_0 x8_2).f0))).setCell ⟨gb202,1,none⟩ (.int .i64 ((rd_T34 l0_0 x8_2).f1))).setCell ⟨gb202,2,none⟩ (.int .i64 ((rd_T34 l0_0 x8_2).f2))).setCell ⟨gb202,3,none⟩ (.int .i64 ((rd_T34 l0_0 x8_2).f3))).setCell ⟨gb202,4,none⟩ (.int .i64 ((rd_T34 l0_0 x8_2).f4))).setCell ⟨gb202,5,none⟩ (.int .i64 ((rd_T34 l0_0 x8_2).f5))).setCell ⟨gb202,6,none⟩ (.bool ((rd_T34 l0_0 x8_2).f6))).setCell ⟨gb202,7,none⟩ (.string ((rd_T34 l0_0 x8_2).f7))).setCell ⟨gb202,8,none⟩ (.slice A201_8 ((rd_T34 l0_0 x8_2).f8).length c201_8)).heap[gb202]? = some (.cells #[.int .i64 ((rd_T34 l0_0 x8_2).f0),.int .i64 ((rd_T34 l0_0 x8_2).f1),.int .i64 ((rd_T34 l0_0 x8_2).f2),.int .i64 ((rd_T34 l0_0 x8_2).f3),.int .i64 ((rd_T34 l0_0 x8_2).f4),.int .i64 ((rd_T34 l0_0 x8_2).f5),.bool ((rd_T34 l0_0 x8_2).f6),.string ((rd_T34 l0_0 x8_2).f7),.slice A201_8 ((rd_T34 l0_0 x8_2).f8).length c201_8] 34 (0,0))) := ⟨by (with_reducible repeat (first | refine zN ?_ _ | refine zD ?_ | refine zA ?_ _)); refine blk_put (cs := #[.int .i64 ((rd_T34 l0_0 x8_2).f0),.int .i64 ((rd_T34 l0_0 x8_2).f1),.int .i64 ((rd_T34 l0_0 x8_2).f2),.int .i64 ((rd_T34 l0_0 x8_2).f3),.int .i64 ((rd_T34 l0_0 x8_2).f4),.int .i64 ((rd_T34 l0_0 x8_2).f5),.bool ((rd_T34 l0_0 x8_2).f6),.string ((rd_T34 l0_0 x8_2).f7),.slice none 0 0]) ?_ 8 _ rfl; (with_reducible repeat (first | refine zN ?_ _ | refine zD ?_ | refine zA ?_ _)); refine blk_put (cs := #[.int .i64 ((rd_T34 l0_0 x8_2).f0),.int .i64 ((rd_T34 l0_0 x8_2).f1),.int .i64 ((rd_T34 l0_0 x8_2).f2),.int .i64 ((rd_T34 l0_0 x8_2).f3),.int .i64 ((rd_T34 l0_0 x8_2).f4),.int .i64 ((rd_T34 l0_0 x8_2).f5),.bool ((rd_T34 l0_0 x8_2).f6),.string (⟨#[]⟩ : ByteArray),.slice none 0 0]) ?_ 7 _ rfl; (with_reducible repeat (first | refine zN ?_ _ | refine zD ?_ | refine zA ?_ _)); refine blk_put (cs := #[.int .i64 ((rd_T34 l0_0 x8_2).f0),.int .i64 ((rd_T34 l0_0 x8_2).f1),.int .i64 ((rd_T34 l0_0 x8_2).f2),.int .i64 ((rd_T34 l0_0 x8_2).f3),.int .i64 ((rd_T34 l0_0 x8_2).f4),.int .i64 ((rd_T34 l0_0 x8_2).f5),.bool false,.string (⟨#[]⟩ : ByteArray),.slice none 0 0]) ?_ 6 _ rfl; (with_reducible repeat (first | refine zN ?_ _ | refine zD ?_ | refine zA ?_ _)); refine blk_put (cs := #[.int .i64 ((rd_T34 l0_0 x8_2).f0),.int .i64 ((rd_T34 l0_0 x8_2).f1),.int .i64 ((rd_T34 l0_0 x8_2).f2),.int .i64 ((rd_T34 l0_0 x8_2).f3),.int .i64 ((rd_T34 l0_0 x8_2).f4),.int .i64 0,.bool false,.string (⟨#[]⟩ : ByteArray),.slice none 0 0]) ?_ 5 _ rfl; (with_reducible repeat (first | refine zN ?_ _ | refine zD ?_ | refine zA ?_ _)); refine blk_put (cs := #[.int .i64 ((rd_T34 l0_0 x8_2).f0),.int .i64 ((rd_T34 l0_0 x8_2).f1),.int .i64 ((rd_T34 l0_0 x8_2).f2),.int .i64 ((rd_T34 l0_0 x8_2).f3),.int .i64 0,.int .i64 0,.bool false,.string (⟨#[]⟩ : ByteArray),.slice none 0 0]) ?_ 4 _ rfl; (with_reducible repeat (first | refine zN ?_ _ | refine zD ?_ | refine zA ?_ _)); refine blk_put (cs := #[.int .i64 ((rd_T34 l0_0 x8_2).f0),.int .i64 ((rd_T34 l0_0 x8_2).f1),.int .i64 ((rd_T34 l0_0 x8_2).f2),.int .i64 0,.int .i64 0,.int .i64 0,.bool false,.string (⟨#[]⟩ : ByteArray),.slice none 0 0]) ?_ 3 _ rfl; (with_reducible repeat (first | refine zN ?_ _ | refine zD ?_ | refine zA ?_ _)); refine blk_put (cs := #[.int .i64 ((rd_T34 l0_0 x8_2).f0),.int .i64 ((rd_T34 l0_0 x8_2).f1),.int .i64 0,.int .i64 0,.int .i64 0,.int .i64 0,.bool false,.string (⟨#[]⟩ : ByteArray),.slice none 0 0]) ?_ 2 _ rfl; (with_reducible repeat (first | refine zN ?_ _ | refine zD ?_ | refine zA ?_ _)); refine blk_put (cs := #[.int .i64 ((rd_T34 l0_0 x8_2).f0),.int .i64 0,.int .i64 0,.int .i64 0,.int .i64 0,.int .i64 0,.bool false,.string (⟨#[]⟩ : ByteArray),.slice none 0 0]) ?_ 1 _ rfl; (with_reducible repeat (first | refine zN ?_ _ | refine zD ?_ | refine zA ?_ _)); refine blk_put (cs := #[.int .i64 0,.int .i64 0,.int .i64 0,.int .i64 0,.int .i64 0,.int .i64 0,.bool false,.string (⟨#[]⟩ : ByteArray),.slice none 0 0]) ?_ 0 _ rfl; (with_reducible repeat (first | refine zN ?_ _ | refine zD ?_ | refine zA ?_ _)); first | exact BK202.out | (simp only [*]; exact BK202.out)⟩
               have n4_ : Aside0 (Below w.heap.size w (((((((((w40.setCell ⟨gb202,0,none⟩ (.int .i64 ((rd_T34 l0_0 x8_2).f0))).setCell ⟨gb202,1,none⟩ (.int .i64 ((rd_T34 l0_0 x8_2).f1))).setCell ⟨gb202,2,none⟩ (.int .i64 ((rd_T34 l0_0 x8_2).f2))).setCell ⟨gb202,3,none⟩ (.int .i64 ((rd_T34 l0_0 x8_2).f3))).setCell ⟨gb202,4,none⟩ (.int .i64 ((rd_T34 l0_0 x8_2).f4))).setCell ⟨gb202,5,none⟩ (.int .i64 ((rd_T34 l0_0 x8_2).f5))).setCell ⟨gb202,6,none⟩ (.bool ((rd_T34 l0_0 x8_2).f6))).setCell ⟨gb202,7,none⟩ (.string ((rd_T34 l0_0 x8_2).f7))).setCell ⟨gb202,8,none⟩ (.slice A201_8 ((rd_T34 l0_0 x8_2).f8).length c201_8))) := ⟨by repeat (first | (with_reducible first | exact HB.out | apply yA | apply yN | apply yD | refine yS ?_ GE183.out | refine yS ?_ GE202.out) | exact HB.out)⟩;(try clear HO_3);(try clear HO_6);(try clear BK183);(try clear BK202);(try clear HB);generalize (((((((((w40.setCell ⟨gb202,0,none⟩ (.int .i64 ((rd_T34 l0_0 x8_2).f0))).setCell ⟨gb202,1,none⟩ (.int .i64 ((rd_T34 l0_0 x8_2).f1))).setCell ⟨gb202,2,none⟩ (.int .i64 ((rd_T34 l0_0 x8_2).f2))).setCell ⟨gb202,3,none⟩ (.int .i64 ((rd_T34 l0_0 x8_2).f3))).setCell ⟨gb202,4,none⟩ (.int .i64 ((rd_T34 l0_0 x8_2).f4))).setCell ⟨gb202,5,none⟩ (.int .i64 ((rd_T34 l0_0 x8_2).f5))).setCell ⟨gb202,6,none⟩ (.bool ((rd_T34 l0_0 x8_2).f6))).setCell ⟨gb202,7,none⟩ (.string ((rd_T34 l0_0 x8_2).f7))).setCell ⟨gb202,8,none⟩ (.slice A201_8 ((rd_T34 l0_0 x8_2).f8).length c201_8)) = w43 at n0_ n1_ n2_ n3_ n4_ ⊢
               have HO_3 := n0_;have HO_6 := n1_;have BK183 := n2_;have BK202 := n3_;have HB := n4_;clear n0_ n1_ n2_ n3_ n4_;by_cases c44 : x8_2 < (x3_1.length : Int)
               ·rw [if_pos c44] at H;have c44b0 : decide (x8_2 < (x3_1.length : Int)) = true := decide_eq_true c44;clear c44;(first | rw [c44b0] | (simp only [i64_w,i32_w]; rw [c44b0]) | skip);by_cases c45 : (rd x3_1 x8_2) > 0
                ·rw [if_pos c45] at H;have c45b0 : decide (0 < (rd x3_1 x8_2)) = true := decide_eq_true c45;clear c45;by_cases c46 : ((rd_T34 l0_0 x8_2).f0) = 0
                 ·rw [if_pos c46] at H;have c46b0 : (((rd_T34 l0_0 x8_2).f0) == 0) = true := beq_iff_eq.mpr c46;have c46b1 : (((rd_T34 l0_0 x8_2).f0) != 0) = false := bne_eq_false_iff_eq.mpr c46;have c46b2 : (((rd_T34 l0_0 x8_2).f0) == 1) = false := beq_eq_false_iff_ne.mpr (by omega);have c46b3 : (((rd_T34 l0_0 x8_2).f0) != 1) = true := bne_iff_ne.mpr (by omega);have c46b4 : (((rd_T34 l0_0 x8_2).f0) == 2) = false := beq_eq_false_iff_ne.mpr (by omega);have c46b5 : (((rd_T34 l0_0 x8_2).f0) != 2) = true := bne_iff_ne.mpr (by omega);clear c46;have H' := Aside0.mk H;clear H;obtain ⟨Ao47,co47,eo47⟩ := Kd.R_slice HO_3.out;subst eo47;have p203 : 0 ≤ (x8_2 : Int) := od_ (by first | (with_reducible assumption) | assumption);have q203 : x8_2 < (x3_1.length : Int) := od_ (by first | (with_reducible assumption) | assumption);obtain ⟨ad203,e203,hx203_0⟩ := Kd.at_int (Kd.R_reads' HO_3.out).2.2 x8_2 p203 q203
                  cases e203
                  replace p203 := eq_true p203;replace q203 := eq_true q203;have hnb48 := NB202_183.out;have hnc48 := NB183_202.out;have hcz49 := pk9 BK202.out
                  try go_wp2
                  repeat (go_quiet (fail); try go_wp2)
                  go_meet
                  case rel => exact ⟨_,(true),(by first | rfl | (simp; done) | (simp [*]; done)),H',⟨by have := HK1.out; have := HK2.out; first | omega | exact Nat.le_refl _⟩,⟨by (with_reducible repeat (first | apply Kd.R_alloc | apply Kd.R_drewN | apply Kd.R_drew)); exact HO_3.out⟩,⟨by (with_reducible repeat (first | apply Kd.R_alloc | apply Kd.R_drewN | apply Kd.R_drew)); exact HO_6.out⟩,⟨by (with_reducible repeat (first | refine zN ?_ _ | refine zD ?_ | refine zA ?_ _)); first | exact BK183.out | (simp only [*]; exact BK183.out)⟩,⟨by (with_reducible repeat (first | refine zN ?_ _ | refine zD ?_ | refine zA ?_ _)); first | exact BK202.out | (simp only [*]; exact BK202.out)⟩,⟨by repeat (first | (with_reducible first | exact HB.out | apply yA | apply yN | apply yD | refine yS ?_ GE183.out | refine yS ?_ GE202.out) | exact HB.out)⟩⟩
                 ·rw [if_neg c46] at H;have c46b0 : (((rd_T34 l0_0 x8_2).f0) == 0) = false := beq_eq_false_iff_ne.mpr c46;have c46b1 : (((rd_T34 l0_0 x8_2).f0) != 0) = true := bne_iff_ne.mpr c46;by_cases c50 : ((rd_T34 l0_0 x8_2).f4) = (rd x3_1 x8_2)
                  ·rw [if_pos c50] at H;have c50b0 : (((rd_T34 l0_0 x8_2).f4) == (rd x3_1 x8_2)) = true := beq_iff_eq.mpr c50;have c50b1 : (((rd_T34 l0_0 x8_2).f4) != (rd x3_1 x8_2)) = false := bne_eq_false_iff_eq.mpr c50;clear c50;by_cases c51 : ((rd_T34 l0_0 x8_2).f0) = 2
                   ·rw [if_pos c51] at H;have c51b0 : (((rd_T34 l0_0 x8_2).f0) == 2) = true := beq_iff_eq.mpr c51;have c51b1 : (((rd_T34 l0_0 x8_2).f0) != 2) = false := bne_eq_false_iff_eq.mpr c51;have c51b2 : (((rd_T34 l0_0 x8_2).f0) == 1) = false := beq_eq_false_iff_ne.mpr (by omega);have c51b3 : (((rd_T34 l0_0 x8_2).f0) != 1) = true := bne_iff_ne.mpr (by omega);clear c51;by_cases c52 : x8_2 < (t197.length : Int)
                    ·rw [if_pos c52] at H;have c52b0 : decide (x8_2 < (t197.length : Int)) = true := decide_eq_true c52;clear c52;obtain ⟨bq53,hbq53⟩ : ∃ b_ : Bool,b_ = (rdOf false t197 x8_2) := ⟨_,rfl⟩;(replace H : (if bq53 = true then (spec_FsOk.j3 k2 x3_1 t197 true x8_2 false l0_0) else (spec_FsOk.j3 k2 x3_1 t197 true x8_2 true l0_0)) = some r := by rw [← hbq53] at H; exact H);have Nbq53 := Aside0.mk hbq53;clear hbq53;by_cases c54 : bq53 = true
                     ·subst c54;(try rw [← Nbq53.out]);(have H1 : (spec_FsOk.j3 k2 x3_1 t197 true x8_2 false l0_0) = some r := by rw [if_pos rfl] at H; exact H);clear H;have H := H1;clear H1;have H' := Aside0.mk H;clear H;obtain ⟨Ao55,co55,eo55⟩ := Kd.R_slice HO_3.out;subst eo55;have p203 : 0 ≤ (x8_2 : Int) := od_ (by first | (with_reducible assumption) | assumption);have q203 : x8_2 < (x3_1.length : Int) := od_ (by first | (with_reducible assumption) | assumption);obtain ⟨ad203,e203,hx203_0⟩ := Kd.at_int (Kd.R_reads' HO_3.out).2.2 x8_2 p203 q203
                      cases e203
                      replace p203 := eq_true p203;replace q203 := eq_true q203;have hnb56 := NB202_183.out;have hnc56 := NB183_202.out;have hcz57 := pk9 BK202.out;have p204 : 0 ≤ (x8_2 : Int) := od_ (by first | (with_reducible assumption) | assumption);have q204 : x8_2 < (x3_1.length : Int) := od_ (by first | (with_reducible assumption) | assumption);obtain ⟨ad204,e204,hx204_0⟩ := Kd.at_int (Kd.R_reads' HO_3.out).2.2 x8_2 p204 q204;obtain rfl : ad203 = ad204 := (by injection e204);replace p204 := eq_true p204;replace q204 := eq_true q204;obtain ⟨Ao58,co58,eo58⟩ := Kd.R_slice HO_6.out;subst eo58;have p205 : 0 ≤ (x8_2 : Int) := od_ (by first | (with_reducible assumption) | assumption);have q205 : x8_2 < (t197.length : Int) := od_ (by first | (with_reducible assumption) | assumption);obtain ⟨ad205,e205,hx205_0⟩ := Kd.at_bool (Kd.R_reads' HO_6.out).2.2 x8_2 p205 q205;(try rw [← Nbq53.out] at hx205_0)
                      cases e205
                      replace p205 := eq_true p205;replace q205 := eq_true q205
                      try go_wp2
                      repeat (go_quiet (fail); try go_wp2)
                      go_meet
                      case rel => (try rw [← Nbq53.out]); exact ⟨_,(false),(by first | rfl | (simp; done) | (simp [*]; done)),H',⟨by have := HK1.out; have := HK2.out; first | omega | exact Nat.le_refl _⟩,⟨by (with_reducible repeat (first | apply Kd.R_alloc | apply Kd.R_drewN | apply Kd.R_drew)); exact HO_3.out⟩,⟨by (with_reducible repeat (first | apply Kd.R_alloc | apply Kd.R_drewN | apply Kd.R_drew)); exact HO_6.out⟩,⟨by (with_reducible repeat (first | refine zN ?_ _ | refine zD ?_ | refine zA ?_ _)); first | exact BK183.out | (simp only [*]; exact BK183.out)⟩,⟨by (with_reducible repeat (first | refine zN ?_ _ | refine zD ?_ | refine zA ?_ _)); first | exact BK202.out | (simp only [*]; exact BK202.out)⟩,⟨by repeat (first | (with_reducible first | exact HB.out | apply yA | apply yN | apply yD | refine yS ?_ GE183.out | refine yS ?_ GE202.out) | exact HB.out)⟩⟩
                     ·replace c54 := Bool.eq_false_iff.mpr c54;subst c54;(try rw [← Nbq53.out]);(have H1 : (spec_FsOk.j3 k2 x3_1 t197 true x8_2 true l0_0) = some r := by rw [if_neg (show ¬ (false = true) by decide)] at H; exact H);clear H;have H := H1;clear H1;have H' := Aside0.mk H;clear H;obtain ⟨Ao59,co59,eo59⟩ := Kd.R_slice HO_3.out;subst eo59;have p203 : 0 ≤ (x8_2 : Int) := od_ (by first | (with_reducible assumption) | assumption);have q203 : x8_2 < (x3_1.length : Int) := od_ (by first | (with_reducible assumption) | assumption);obtain ⟨ad203,e203,hx203_0⟩ := Kd.at_int (Kd.R_reads' HO_3.out).2.2 x8_2 p203 q203
                      cases e203
                      replace p203 := eq_true p203;replace q203 := eq_true q203;have hnb60 := NB202_183.out;have hnc60 := NB183_202.out;have hcz61 := pk9 BK202.out;have p204 : 0 ≤ (x8_2 : Int) := od_ (by first | (with_reducible assumption) | assumption);have q204 : x8_2 < (x3_1.length : Int) := od_ (by first | (with_reducible assumption) | assumption);obtain ⟨ad204,e204,hx204_0⟩ := Kd.at_int (Kd.R_reads' HO_3.out).2.2 x8_2 p204 q204;obtain rfl : ad203 = ad204 := (by injection e204);replace p204 := eq_true p204;replace q204 := eq_true q204;obtain ⟨Ao62,co62,eo62⟩ := Kd.R_slice HO_6.out;subst eo62;have p205 : 0 ≤ (x8_2 : Int) := od_ (by first | (with_reducible assumption) | assumption);have q205 : x8_2 < (t197.length : Int) := od_ (by first | (with_reducible assumption) | assumption);obtain ⟨ad205,e205,hx205_0⟩ := Kd.at_bool (Kd.R_reads' HO_6.out).2.2 x8_2 p205 q205;(try rw [← Nbq53.out] at hx205_0)
                      cases e205
                      replace p205 := eq_true p205;replace q205 := eq_true q205
                      try go_wp2
                      repeat (go_quiet (fail); try go_wp2)
                      go_meet
                      case rel => (try rw [← Nbq53.out]); exact ⟨_,(true),(by first | rfl | (simp; done) | (simp [*]; done)),H',⟨by have := HK1.out; have := HK2.out; first | omega | exact Nat.le_refl _⟩,⟨by (with_reducible repeat (first | apply Kd.R_alloc | apply Kd.R_drewN | apply Kd.R_drew)); exact HO_3.out⟩,⟨by (with_reducible repeat (first | apply Kd.R_alloc | apply Kd.R_drewN | apply Kd.R_drew)); exact HO_6.out⟩,⟨by (with_reducible repeat (first | refine zN ?_ _ | refine zD ?_ | refine zA ?_ _)); first | exact BK183.out | (simp only [*]; exact BK183.out)⟩,⟨by (with_reducible repeat (first | refine zN ?_ _ | refine zD ?_ | refine zA ?_ _)); first | exact BK202.out | (simp only [*]; exact BK202.out)⟩,⟨by repeat (first | (with_reducible first | exact HB.out | apply yA | apply yN | apply yD | refine yS ?_ GE183.out | refine yS ?_ GE202.out) | exact HB.out)⟩⟩
                    ·rw [if_neg c52] at H
                     exact absurd H (by simp)
                   ·rw [if_neg c51] at H;have c51b0 : (((rd_T34 l0_0 x8_2).f0) == 2) = false := beq_eq_false_iff_ne.mpr c51;have c51b1 : (((rd_T34 l0_0 x8_2).f0) != 2) = true := bne_iff_ne.mpr c51;by_cases c63 : ((rd_T34 l0_0 x8_2).f0) = 1
                    ·rw [if_pos c63] at H;have c63b0 : (((rd_T34 l0_0 x8_2).f0) == 1) = true := beq_iff_eq.mpr c63;have c63b1 : (((rd_T34 l0_0 x8_2).f0) != 1) = false := bne_eq_false_iff_eq.mpr c63;have c63b2 : (((rd_T34 l0_0 x8_2).f0) == 2) = false := beq_eq_false_iff_ne.mpr (by omega);have c63b3 : (((rd_T34 l0_0 x8_2).f0) != 2) = true := bne_iff_ne.mpr (by omega);clear c63;by_cases c64 : ((rd_T34 l0_0 x8_2).f4) = 0
                     ·rw [if_pos c64] at H;have c64b0 : (((rd_T34 l0_0 x8_2).f4) == 0) = true := beq_iff_eq.mpr c64;have c64b1 : (((rd_T34 l0_0 x8_2).f4) != 0) = false := bne_eq_false_iff_eq.mpr c64;have c64b2 : (((rd_T34 l0_0 x8_2).f4) == 1) = false := beq_eq_false_iff_ne.mpr (by omega);have c64b3 : (((rd_T34 l0_0 x8_2).f4) != 1) = true := bne_iff_ne.mpr (by omega);have c64b4 : (((rd_T34 l0_0 x8_2).f4) == 2) = false := beq_eq_false_iff_ne.mpr (by omega);have c64b5 : (((rd_T34 l0_0 x8_2).f4) != 2) = true := bne_iff_ne.mpr (by omega);clear c64;have H' := Aside0.mk H;clear H;obtain ⟨Ao65,co65,eo65⟩ := Kd.R_slice HO_3.out;subst eo65;have p203 : 0 ≤ (x8_2 : Int) := od_ (by first | (with_reducible assumption) | assumption);have q203 : x8_2 < (x3_1.length : Int) := od_ (by first | (with_reducible assumption) | assumption);obtain ⟨ad203,e203,hx203_0⟩ := Kd.at_int (Kd.R_reads' HO_3.out).2.2 x8_2 p203 q203
                      cases e203
                      replace p203 := eq_true p203;replace q203 := eq_true q203;have hnb66 := NB202_183.out;have hnc66 := NB183_202.out;have hcz67 := pk9 BK202.out;have p204 : 0 ≤ (x8_2 : Int) := od_ (by first | (with_reducible assumption) | assumption);have q204 : x8_2 < (x3_1.length : Int) := od_ (by first | (with_reducible assumption) | assumption);obtain ⟨ad204,e204,hx204_0⟩ := Kd.at_int (Kd.R_reads' HO_3.out).2.2 x8_2 p204 q204;obtain rfl : ad203 = ad204 := (by injection e204);replace p204 := eq_true p204;replace q204 := eq_true q204
                      try go_wp2
                      repeat (go_quiet (fail); try go_wp2)
                      go_meet
                      case rel => exact ⟨_,((((rd_T34 l0_0 x8_2).f5) == 0)),(by first | rfl | (simp; done) | (simp [*]; done)),H',⟨by have := HK1.out; have := HK2.out; first | omega | exact Nat.le_refl _⟩,⟨by (with_reducible repeat (first | apply Kd.R_alloc | apply Kd.R_drewN | apply Kd.R_drew)); exact HO_3.out⟩,⟨by (with_reducible repeat (first | apply Kd.R_alloc | apply Kd.R_drewN | apply Kd.R_drew)); exact HO_6.out⟩,⟨by (with_reducible repeat (first | refine zN ?_ _ | refine zD ?_ | refine zA ?_ _)); first | exact BK183.out | (simp only [*]; exact BK183.out)⟩,⟨by (with_reducible repeat (first | refine zN ?_ _ | refine zD ?_ | refine zA ?_ _)); first | exact BK202.out | (simp only [*]; exact BK202.out)⟩,⟨by repeat (first | (with_reducible first | exact HB.out | apply yA | apply yN | apply yD | refine yS ?_ GE183.out | refine yS ?_ GE202.out) | exact HB.out)⟩⟩
                     ·rw [if_neg c64] at H;have c64b0 : (((rd_T34 l0_0 x8_2).f4) == 0) = false := beq_eq_false_iff_ne.mpr c64;have c64b1 : (((rd_T34 l0_0 x8_2).f4) != 0) = true := bne_iff_ne.mpr c64;have H' := Aside0.mk H;clear H;obtain ⟨Ao68,co68,eo68⟩ := Kd.R_slice HO_3.out;subst eo68;have p203 : 0 ≤ (x8_2 : Int) := od_ (by first | (with_reducible assumption) | assumption);have q203 : x8_2 < (x3_1.length : Int) := od_ (by first | (with_reducible assumption) | assumption);obtain ⟨ad203,e203,hx203_0⟩ := Kd.at_int (Kd.R_reads' HO_3.out).2.2 x8_2 p203 q203
                      cases e203
                      replace p203 := eq_true p203;replace q203 := eq_true q203;have hnb69 := NB202_183.out;have hnc69 := NB183_202.out;have hcz70 := pk9 BK202.out;have p204 : 0 ≤ (x8_2 : Int) := od_ (by first | (with_reducible assumption) | assumption);have q204 : x8_2 < (x3_1.length : Int) := od_ (by first | (with_reducible assumption) | assumption);obtain ⟨ad204,e204,hx204_0⟩ := Kd.at_int (Kd.R_reads' HO_3.out).2.2 x8_2 p204 q204;obtain rfl : ad203 = ad204 := (by injection e204);replace p204 := eq_true p204;replace q204 := eq_true q204
                      try go_wp2
                      repeat (go_quiet (fail); try go_wp2)
                      go_meet
                      case rel => exact ⟨_,(false),(by first | rfl | (simp; done) | (simp [*]; done)),H',⟨by have := HK1.out; have := HK2.out; first | omega | exact Nat.le_refl _⟩,⟨by (with_reducible repeat (first | apply Kd.R_alloc | apply Kd.R_drewN | apply Kd.R_drew)); exact HO_3.out⟩,⟨by (with_reducible repeat (first | apply Kd.R_alloc | apply Kd.R_drewN | apply Kd.R_drew)); exact HO_6.out⟩,⟨by (with_reducible repeat (first | refine zN ?_ _ | refine zD ?_ | refine zA ?_ _)); first | exact BK183.out | (simp only [*]; exact BK183.out)⟩,⟨by (with_reducible repeat (first | refine zN ?_ _ | refine zD ?_ | refine zA ?_ _)); first | exact BK202.out | (simp only [*]; exact BK202.out)⟩,⟨by repeat (first | (with_reducible first | exact HB.out | apply yA | apply yN | apply yD | refine yS ?_ GE183.out | refine yS ?_ GE202.out) | exact HB.out)⟩⟩
                    ·rw [if_neg c63] at H;have c63b0 : (((rd_T34 l0_0 x8_2).f0) == 1) = false := beq_eq_false_iff_ne.mpr c63;have c63b1 : (((rd_T34 l0_0 x8_2).f0) != 1) = true := bne_iff_ne.mpr c63;have H' := Aside0.mk H;clear H;obtain ⟨Ao71,co71,eo71⟩ := Kd.R_slice HO_3.out;subst eo71;have p203 : 0 ≤ (x8_2 : Int) := od_ (by first | (with_reducible assumption) | assumption);have q203 : x8_2 < (x3_1.length : Int) := od_ (by first | (with_reducible assumption) | assumption);obtain ⟨ad203,e203,hx203_0⟩ := Kd.at_int (Kd.R_reads' HO_3.out).2.2 x8_2 p203 q203
                     cases e203
                     replace p203 := eq_true p203;replace q203 := eq_true q203;have hnb72 := NB202_183.out;have hnc72 := NB183_202.out;have hcz73 := pk9 BK202.out;have p204 : 0 ≤ (x8_2 : Int) := od_ (by first | (with_reducible assumption) | assumption);have q204 : x8_2 < (x3_1.length : Int) := od_ (by first | (with_reducible assumption) | assumption);obtain ⟨ad204,e204,hx204_0⟩ := Kd.at_int (Kd.R_reads' HO_3.out).2.2 x8_2 p204 q204;obtain rfl : ad203 = ad204 := (by injection e204);replace p204 := eq_true p204;replace q204 := eq_true q204
                     try go_wp2
                     repeat (go_quiet (fail); try go_wp2)
                     go_meet
                     case rel => exact ⟨_,(false),(by first | rfl | (simp; done) | (simp [*]; done)),H',⟨by have := HK1.out; have := HK2.out; first | omega | exact Nat.le_refl _⟩,⟨by (with_reducible repeat (first | apply Kd.R_alloc | apply Kd.R_drewN | apply Kd.R_drew)); exact HO_3.out⟩,⟨by (with_reducible repeat (first | apply Kd.R_alloc | apply Kd.R_drewN | apply Kd.R_drew)); exact HO_6.out⟩,⟨by (with_reducible repeat (first | refine zN ?_ _ | refine zD ?_ | refine zA ?_ _)); first | exact BK183.out | (simp only [*]; exact BK183.out)⟩,⟨by (with_reducible repeat (first | refine zN ?_ _ | refine zD ?_ | refine zA ?_ _)); first | exact BK202.out | (simp only [*]; exact BK202.out)⟩,⟨by repeat (first | (with_reducible first | exact HB.out | apply yA | apply yN | apply yD | refine yS ?_ GE183.out | refine yS ?_ GE202.out) | exact HB.out)⟩⟩
                  ·rw [if_neg c50] at H;have c50b0 : (((rd_T34 l0_0 x8_2).f4) == (rd x3_1 x8_2)) = false := beq_eq_false_iff_ne.mpr c50;have c50b1 : (((rd_T34 l0_0 x8_2).f4) != (rd x3_1 x8_2)) = true := bne_iff_ne.mpr c50;have H' := Aside0.mk H;clear H;obtain ⟨Ao74,co74,eo74⟩ := Kd.R_slice HO_3.out;subst eo74;have p203 : 0 ≤ (x8_2 : Int) := od_ (by first | (with_reducible assumption) | assumption);have q203 : x8_2 < (x3_1.length : Int) := od_ (by first | (with_reducible assumption) | assumption);obtain ⟨ad203,e203,hx203_0⟩ := Kd.at_int (Kd.R_reads' HO_3.out).2.2 x8_2 p203 q203
                   cases e203
                   replace p203 := eq_true p203;replace q203 := eq_true q203;have hnb75 := NB202_183.out;have hnc75 := NB183_202.out;have hcz76 := pk9 BK202.out;have p204 : 0 ≤ (x8_2 : Int) := od_ (by first | (with_reducible assumption) | assumption);have q204 : x8_2 < (x3_1.length : Int) := od_ (by first | (with_reducible assumption) | assumption);obtain ⟨ad204,e204,hx204_0⟩ := Kd.at_int (Kd.R_reads' HO_3.out).2.2 x8_2 p204 q204;obtain rfl : ad203 = ad204 := (by injection e204);replace p204 := eq_true p204;replace q204 := eq_true q204
                   try go_wp2
                   repeat (go_quiet (fail); try go_wp2)
                   go_meet
                   case rel => exact ⟨_,(true),(by first | rfl | (simp; done) | (simp [*]; done)),H',⟨by have := HK1.out; have := HK2.out; first | omega | exact Nat.le_refl _⟩,⟨by (with_reducible repeat (first | apply Kd.R_alloc | apply Kd.R_drewN | apply Kd.R_drew)); exact HO_3.out⟩,⟨by (with_reducible repeat (first | apply Kd.R_alloc | apply Kd.R_drewN | apply Kd.R_drew)); exact HO_6.out⟩,⟨by (with_reducible repeat (first | refine zN ?_ _ | refine zD ?_ | refine zA ?_ _)); first | exact BK183.out | (simp only [*]; exact BK183.out)⟩,⟨by (with_reducible repeat (first | refine zN ?_ _ | refine zD ?_ | refine zA ?_ _)); first | exact BK202.out | (simp only [*]; exact BK202.out)⟩,⟨by repeat (first | (with_reducible first | exact HB.out | apply yA | apply yN | apply yD | refine yS ?_ GE183.out | refine yS ?_ GE202.out) | exact HB.out)⟩⟩
                ·rw [if_neg c45] at H;have c45b0 : decide (0 < (rd x3_1 x8_2)) = false := decide_eq_false c45;clear c45;by_cases c77 : ((rd_T34 l0_0 x8_2).f0) = 0
                 ·rw [if_pos c77] at H;have c77b0 : (((rd_T34 l0_0 x8_2).f0) == 0) = true := beq_iff_eq.mpr c77;have c77b1 : (((rd_T34 l0_0 x8_2).f0) != 0) = false := bne_eq_false_iff_eq.mpr c77;have c77b2 : (((rd_T34 l0_0 x8_2).f0) == 1) = false := beq_eq_false_iff_ne.mpr (by omega);have c77b3 : (((rd_T34 l0_0 x8_2).f0) != 1) = true := bne_iff_ne.mpr (by omega);have c77b4 : (((rd_T34 l0_0 x8_2).f0) == 2) = false := beq_eq_false_iff_ne.mpr (by omega);have c77b5 : (((rd_T34 l0_0 x8_2).f0) != 2) = true := bne_iff_ne.mpr (by omega);clear c77;have H' := Aside0.mk H;clear H;obtain ⟨Ao78,co78,eo78⟩ := Kd.R_slice HO_3.out;subst eo78;have p203 : 0 ≤ (x8_2 : Int) := od_ (by first | (with_reducible assumption) | assumption);have q203 : x8_2 < (x3_1.length : Int) := od_ (by first | (with_reducible assumption) | assumption);obtain ⟨ad203,e203,hx203_0⟩ := Kd.at_int (Kd.R_reads' HO_3.out).2.2 x8_2 p203 q203
                  cases e203
                  replace p203 := eq_true p203;replace q203 := eq_true q203;have hnb79 := NB202_183.out;have hnc79 := NB183_202.out;have hcz80 := pk9 BK202.out
                  try go_wp2
                  repeat (go_quiet (fail); try go_wp2)
                  go_meet
                  case rel => exact ⟨_,(false),(by first | rfl | (simp; done) | (simp [*]; done)),H',⟨by have := HK1.out; have := HK2.out; first | omega | exact Nat.le_refl _⟩,⟨by (with_reducible repeat (first | apply Kd.R_alloc | apply Kd.R_drewN | apply Kd.R_drew)); exact HO_3.out⟩,⟨by (with_reducible repeat (first | apply Kd.R_alloc | apply Kd.R_drewN | apply Kd.R_drew)); exact HO_6.out⟩,⟨by (with_reducible repeat (first | refine zN ?_ _ | refine zD ?_ | refine zA ?_ _)); first | exact BK183.out | (simp only [*]; exact BK183.out)⟩,⟨by (with_reducible repeat (first | refine zN ?_ _ | refine zD ?_ | refine zA ?_ _)); first | exact BK202.out | (simp only [*]; exact BK202.out)⟩,⟨by repeat (first | (with_reducible first | exact HB.out | apply yA | apply yN | apply yD | refine yS ?_ GE183.out | refine yS ?_ GE202.out) | exact HB.out)⟩⟩
                 ·rw [if_neg c77] at H;have c77b0 : (((rd_T34 l0_0 x8_2).f0) == 0) = false := beq_eq_false_iff_ne.mpr c77;have c77b1 : (((rd_T34 l0_0 x8_2).f0) != 0) = true := bne_iff_ne.mpr c77;by_cases c81 : ((rd_T34 l0_0 x8_2).f4) = (rd x3_1 x8_2)
                  ·rw [if_pos c81] at H;have c81b0 : (((rd_T34 l0_0 x8_2).f4) == (rd x3_1 x8_2)) = true := beq_iff_eq.mpr c81;have c81b1 : (((rd_T34 l0_0 x8_2).f4) != (rd x3_1 x8_2)) = false := bne_eq_false_iff_eq.mpr c81;clear c81;by_cases c82 : ((rd_T34 l0_0 x8_2).f0) = 2
                   ·rw [if_pos c82] at H;have c82b0 : (((rd_T34 l0_0 x8_2).f0) == 2) = true := beq_iff_eq.mpr c82;have c82b1 : (((rd_T34 l0_0 x8_2).f0) != 2) = false := bne_eq_false_iff_eq.mpr c82;have c82b2 : (((rd_T34 l0_0 x8_2).f0) == 1) = false := beq_eq_false_iff_ne.mpr (by omega);have c82b3 : (((rd_T34 l0_0 x8_2).f0) != 1) = true := bne_iff_ne.mpr (by omega);clear c82;by_cases c83 : x8_2 < (t197.length : Int)
                    ·rw [if_pos c83] at H;have c83b0 : decide (x8_2 < (t197.length : Int)) = true := decide_eq_true c83;clear c83;obtain ⟨bq84,hbq84⟩ : ∃ b_ : Bool,b_ = (rdOf false t197 x8_2) := ⟨_,rfl⟩;(replace H : (if bq84 = true then (spec_FsOk.j3 k2 x3_1 t197 true x8_2 false l0_0) else (spec_FsOk.j3 k2 x3_1 t197 true x8_2 true l0_0)) = some r := by rw [← hbq84] at H; exact H);have Nbq84 := Aside0.mk hbq84;clear hbq84;by_cases c85 : bq84 = true
                     ·subst c85;(try rw [← Nbq84.out]);(have H1 : (spec_FsOk.j3 k2 x3_1 t197 true x8_2 false l0_0) = some r := by rw [if_pos rfl] at H; exact H);clear H;have H := H1;clear H1;have H' := Aside0.mk H;clear H;obtain ⟨Ao86,co86,eo86⟩ := Kd.R_slice HO_3.out;subst eo86;have p203 : 0 ≤ (x8_2 : Int) := od_ (by first | (with_reducible assumption) | assumption);have q203 : x8_2 < (x3_1.length : Int) := od_ (by first | (with_reducible assumption) | assumption);obtain ⟨ad203,e203,hx203_0⟩ := Kd.at_int (Kd.R_reads' HO_3.out).2.2 x8_2 p203 q203
                      cases e203
                      replace p203 := eq_true p203;replace q203 := eq_true q203;have hnb87 := NB202_183.out;have hnc87 := NB183_202.out;have hcz88 := pk9 BK202.out;have p206 : 0 ≤ (x8_2 : Int) := od_ (by first | (with_reducible assumption) | assumption);have q206 : x8_2 < (x3_1.length : Int) := od_ (by first | (with_reducible assumption) | assumption);obtain ⟨ad206,e206,hx206_0⟩ := Kd.at_int (Kd.R_reads' HO_3.out).2.2 x8_2 p206 q206;obtain rfl : ad203 = ad206 := (by injection e206);replace p206 := eq_true p206;replace q206 := eq_true q206;obtain ⟨Ao89,co89,eo89⟩ := Kd.R_slice HO_6.out;subst eo89;have p207 : 0 ≤ (x8_2 : Int) := od_ (by first | (with_reducible assumption) | assumption);have q207 : x8_2 < (t197.length : Int) := od_ (by first | (with_reducible assumption) | assumption);obtain ⟨ad207,e207,hx207_0⟩ := Kd.at_bool (Kd.R_reads' HO_6.out).2.2 x8_2 p207 q207;(try rw [← Nbq84.out] at hx207_0)
                      cases e207
                      replace p207 := eq_true p207;replace q207 := eq_true q207
                      try go_wp2
                      repeat (go_quiet (fail); try go_wp2)
                      go_meet
                      case rel => (try rw [← Nbq84.out]); exact ⟨_,(false),(by first | rfl | (simp; done) | (simp [*]; done)),H',⟨by have := HK1.out; have := HK2.out; first | omega | exact Nat.le_refl _⟩,⟨by (with_reducible repeat (first | apply Kd.R_alloc | apply Kd.R_drewN | apply Kd.R_drew)); exact HO_3.out⟩,⟨by (with_reducible repeat (first | apply Kd.R_alloc | apply Kd.R_drewN | apply Kd.R_drew)); exact HO_6.out⟩,⟨by (with_reducible repeat (first | refine zN ?_ _ | refine zD ?_ | refine zA ?_ _)); first | exact BK183.out | (simp only [*]; exact BK183.out)⟩,⟨by (with_reducible repeat (first | refine zN ?_ _ | refine zD ?_ | refine zA ?_ _)); first | exact BK202.out | (simp only [*]; exact BK202.out)⟩,⟨by repeat (first | (with_reducible first | exact HB.out | apply yA | apply yN | apply yD | refine yS ?_ GE183.out | refine yS ?_ GE202.out) | exact HB.out)⟩⟩
                     ·replace c85 := Bool.eq_false_iff.mpr c85;subst c85;(try rw [← Nbq84.out]);(have H1 : (spec_FsOk.j3 k2 x3_1 t197 true x8_2 true l0_0) = some r := by rw [if_neg (show ¬ (false = true) by decide)] at H; exact H);clear H;have H := H1;clear H1;have H' := Aside0.mk H;clear H;obtain ⟨Ao90,co90,eo90⟩ := Kd.R_slice HO_3.out;subst eo90;have p203 : 0 ≤ (x8_2 : Int) := od_ (by first | (with_reducible assumption) | assumption);have q203 : x8_2 < (x3_1.length : Int) := od_ (by first | (with_reducible assumption) | assumption);obtain ⟨ad203,e203,hx203_0⟩ := Kd.at_int (Kd.R_reads' HO_3.out).2.2 x8_2 p203 q203
                      cases e203
                      replace p203 := eq_true p203;replace q203 := eq_true q203;have hnb91 := NB202_183.out;have hnc91 := NB183_202.out;have hcz92 := pk9 BK202.out;have p206 : 0 ≤ (x8_2 : Int) := od_ (by first | (with_reducible assumption) | assumption);have q206 : x8_2 < (x3_1.length : Int) := od_ (by first | (with_reducible assumption) | assumption);obtain ⟨ad206,e206,hx206_0⟩ := Kd.at_int (Kd.R_reads' HO_3.out).2.2 x8_2 p206 q206;obtain rfl : ad203 = ad206 := (by injection e206);replace p206 := eq_true p206;replace q206 := eq_true q206;obtain ⟨Ao93,co93,eo93⟩ := Kd.R_slice HO_6.out;subst eo93;have p207 : 0 ≤ (x8_2 : Int) := od_ (by first | (with_reducible assumption) | assumption);have q207 : x8_2 < (t197.length : Int) := od_ (by first | (with_reducible assumption) | assumption);obtain ⟨ad207,e207,hx207_0⟩ := Kd.at_bool (Kd.R_reads' HO_6.out).2.2 x8_2 p207 q207;(try rw [← Nbq84.out] at hx207_0)
                      cases e207
                      replace p207 := eq_true p207;replace q207 := eq_true q207
                      try go_wp2
                      repeat (go_quiet (fail); try go_wp2)
                      go_meet
                      case rel => (try rw [← Nbq84.out]); exact ⟨_,(true),(by first | rfl | (simp; done) | (simp [*]; done)),H',⟨by have := HK1.out; have := HK2.out; first | omega | exact Nat.le_refl _⟩,⟨by (with_reducible repeat (first | apply Kd.R_alloc | apply Kd.R_drewN | apply Kd.R_drew)); exact HO_3.out⟩,⟨by (with_reducible repeat (first | apply Kd.R_alloc | apply Kd.R_drewN | apply Kd.R_drew)); exact HO_6.out⟩,⟨by (with_reducible repeat (first | refine zN ?_ _ | refine zD ?_ | refine zA ?_ _)); first | exact BK183.out | (simp only [*]; exact BK183.out)⟩,⟨by (with_reducible repeat (first | refine zN ?_ _ | refine zD ?_ | refine zA ?_ _)); first | exact BK202.out | (simp only [*]; exact BK202.out)⟩,⟨by repeat (first | (with_reducible first | exact HB.out | apply yA | apply yN | apply yD | refine yS ?_ GE183.out | refine yS ?_ GE202.out) | exact HB.out)⟩⟩
                    ·rw [if_neg c83] at H
                     exact absurd H (by simp)
                   ·rw [if_neg c82] at H;have c82b0 : (((rd_T34 l0_0 x8_2).f0) == 2) = false := beq_eq_false_iff_ne.mpr c82;have c82b1 : (((rd_T34 l0_0 x8_2).f0) != 2) = true := bne_iff_ne.mpr c82;by_cases c94 : ((rd_T34 l0_0 x8_2).f0) = 1
                    ·rw [if_pos c94] at H;have c94b0 : (((rd_T34 l0_0 x8_2).f0) == 1) = true := beq_iff_eq.mpr c94;have c94b1 : (((rd_T34 l0_0 x8_2).f0) != 1) = false := bne_eq_false_iff_eq.mpr c94;have c94b2 : (((rd_T34 l0_0 x8_2).f0) == 2) = false := beq_eq_false_iff_ne.mpr (by omega);have c94b3 : (((rd_T34 l0_0 x8_2).f0) != 2) = true := bne_iff_ne.mpr (by omega);clear c94;by_cases c95 : ((rd_T34 l0_0 x8_2).f4) = 0
                     ·rw [if_pos c95] at H;have c95b0 : (((rd_T34 l0_0 x8_2).f4) == 0) = true := beq_iff_eq.mpr c95;have c95b1 : (((rd_T34 l0_0 x8_2).f4) != 0) = false := bne_eq_false_iff_eq.mpr c95;have c95b2 : (((rd_T34 l0_0 x8_2).f4) == 1) = false := beq_eq_false_iff_ne.mpr (by omega);have c95b3 : (((rd_T34 l0_0 x8_2).f4) != 1) = true := bne_iff_ne.mpr (by omega);have c95b4 : (((rd_T34 l0_0 x8_2).f4) == 2) = false := beq_eq_false_iff_ne.mpr (by omega);have c95b5 : (((rd_T34 l0_0 x8_2).f4) != 2) = true := bne_iff_ne.mpr (by omega);clear c95;have H' := Aside0.mk H;clear H;obtain ⟨Ao96,co96,eo96⟩ := Kd.R_slice HO_3.out;subst eo96;have p203 : 0 ≤ (x8_2 : Int) := od_ (by first | (with_reducible assumption) | assumption);have q203 : x8_2 < (x3_1.length : Int) := od_ (by first | (with_reducible assumption) | assumption);obtain ⟨ad203,e203,hx203_0⟩ := Kd.at_int (Kd.R_reads' HO_3.out).2.2 x8_2 p203 q203
                      cases e203
                      replace p203 := eq_true p203;replace q203 := eq_true q203;have hnb97 := NB202_183.out;have hnc97 := NB183_202.out;have hcz98 := pk9 BK202.out;have p206 : 0 ≤ (x8_2 : Int) := od_ (by first | (with_reducible assumption) | assumption);have q206 : x8_2 < (x3_1.length : Int) := od_ (by first | (with_reducible assumption) | assumption);obtain ⟨ad206,e206,hx206_0⟩ := Kd.at_int (Kd.R_reads' HO_3.out).2.2 x8_2 p206 q206;obtain rfl : ad203 = ad206 := (by injection e206);replace p206 := eq_true p206;replace q206 := eq_true q206
                      try go_wp2
                      repeat (go_quiet (fail); try go_wp2)
                      go_meet
                      case rel => exact ⟨_,((((rd_T34 l0_0 x8_2).f5) == 0)),(by first | rfl | (simp; done) | (simp [*]; done)),H',⟨by have := HK1.out; have := HK2.out; first | omega | exact Nat.le_refl _⟩,⟨by (with_reducible repeat (first | apply Kd.R_alloc | apply Kd.R_drewN | apply Kd.R_drew)); exact HO_3.out⟩,⟨by (with_reducible repeat (first | apply Kd.R_alloc | apply Kd.R_drewN | apply Kd.R_drew)); exact HO_6.out⟩,⟨by (with_reducible repeat (first | refine zN ?_ _ | refine zD ?_ | refine zA ?_ _)); first | exact BK183.out | (simp only [*]; exact BK183.out)⟩,⟨by (with_reducible repeat (first | refine zN ?_ _ | refine zD ?_ | refine zA ?_ _)); first | exact BK202.out | (simp only [*]; exact BK202.out)⟩,⟨by repeat (first | (with_reducible first | exact HB.out | apply yA | apply yN | apply yD | refine yS ?_ GE183.out | refine yS ?_ GE202.out) | exact HB.out)⟩⟩
                     ·rw [if_neg c95] at H;have c95b0 : (((rd_T34 l0_0 x8_2).f4) == 0) = false := beq_eq_false_iff_ne.mpr c95;have c95b1 : (((rd_T34 l0_0 x8_2).f4) != 0) = true := bne_iff_ne.mpr c95;have H' := Aside0.mk H;clear H;obtain ⟨Ao99,co99,eo99⟩ := Kd.R_slice HO_3.out;subst eo99;have p203 : 0 ≤ (x8_2 : Int) := od_ (by first | (with_reducible assumption) | assumption);have q203 : x8_2 < (x3_1.length : Int) := od_ (by first | (with_reducible assumption) | assumption);obtain ⟨ad203,e203,hx203_0⟩ := Kd.at_int (Kd.R_reads' HO_3.out).2.2 x8_2 p203 q203
                      cases e203
                      replace p203 := eq_true p203;replace q203 := eq_true q203;have hnb100 := NB202_183.out;have hnc100 := NB183_202.out;have hcz101 := pk9 BK202.out;have p206 : 0 ≤ (x8_2 : Int) := od_ (by first | (with_reducible assumption) | assumption);have q206 : x8_2 < (x3_1.length : Int) := od_ (by first | (with_reducible assumption) | assumption);obtain ⟨ad206,e206,hx206_0⟩ := Kd.at_int (Kd.R_reads' HO_3.out).2.2 x8_2 p206 q206;obtain rfl : ad203 = ad206 := (by injection e206);replace p206 := eq_true p206;replace q206 := eq_true q206
                      try go_wp2
                      repeat (go_quiet (fail); try go_wp2)
                      go_meet
                      case rel => exact ⟨_,(false),(by first | rfl | (simp; done) | (simp [*]; done)),H',⟨by have := HK1.out; have := HK2.out; first | omega | exact Nat.le_refl _⟩,⟨by (with_reducible repeat (first | apply Kd.R_alloc | apply Kd.R_drewN | apply Kd.R_drew)); exact HO_3.out⟩,⟨by (with_reducible repeat (first | apply Kd.R_alloc | apply Kd.R_drewN | apply Kd.R_drew)); exact HO_6.out⟩,⟨by (with_reducible repeat (first | refine zN ?_ _ | refine zD ?_ | refine zA ?_ _)); first | exact BK183.out | (simp only [*]; exact BK183.out)⟩,⟨by (with_reducible repeat (first | refine zN ?_ _ | refine zD ?_ | refine zA ?_ _)); first | exact BK202.out | (simp only [*]; exact BK202.out)⟩,⟨by repeat (first | (with_reducible first | exact HB.out | apply yA | apply yN | apply yD | refine yS ?_ GE183.out | refine yS ?_ GE202.out) | exact HB.out)⟩⟩
                    ·rw [if_neg c94] at H;have c94b0 : (((rd_T34 l0_0 x8_2).f0) == 1) = false := beq_eq_false_iff_ne.mpr c94;have c94b1 : (((rd_T34 l0_0 x8_2).f0) != 1) = true := bne_iff_ne.mpr c94;have H' := Aside0.mk H;clear H;obtain ⟨Ao102,co102,eo102⟩ := Kd.R_slice HO_3.out;subst eo102;have p203 : 0 ≤ (x8_2 : Int) := od_ (by first | (with_reducible assumption) | assumption);have q203 : x8_2 < (x3_1.length : Int) := od_ (by first | (with_reducible assumption) | assumption);obtain ⟨ad203,e203,hx203_0⟩ := Kd.at_int (Kd.R_reads' HO_3.out).2.2 x8_2 p203 q203
                     cases e203
                     replace p203 := eq_true p203;replace q203 := eq_true q203;have hnb103 := NB202_183.out;have hnc103 := NB183_202.out;have hcz104 := pk9 BK202.out;have p206 : 0 ≤ (x8_2 : Int) := od_ (by first | (with_reducible assumption) | assumption);have q206 : x8_2 < (x3_1.length : Int) := od_ (by first | (with_reducible assumption) | assumption);obtain ⟨ad206,e206,hx206_0⟩ := Kd.at_int (Kd.R_reads' HO_3.out).2.2 x8_2 p206 q206;obtain rfl : ad203 = ad206 := (by injection e206);replace p206 := eq_true p206;replace q206 := eq_true q206
                     try go_wp2
                     repeat (go_quiet (fail); try go_wp2)
                     go_meet
                     case rel => exact ⟨_,(false),(by first | rfl | (simp; done) | (simp [*]; done)),H',⟨by have := HK1.out; have := HK2.out; first | omega | exact Nat.le_refl _⟩,⟨by (with_reducible repeat (first | apply Kd.R_alloc | apply Kd.R_drewN | apply Kd.R_drew)); exact HO_3.out⟩,⟨by (with_reducible repeat (first | apply Kd.R_alloc | apply Kd.R_drewN | apply Kd.R_drew)); exact HO_6.out⟩,⟨by (with_reducible repeat (first | refine zN ?_ _ | refine zD ?_ | refine zA ?_ _)); first | exact BK183.out | (simp only [*]; exact BK183.out)⟩,⟨by (with_reducible repeat (first | refine zN ?_ _ | refine zD ?_ | refine zA ?_ _)); first | exact BK202.out | (simp only [*]; exact BK202.out)⟩,⟨by repeat (first | (with_reducible first | exact HB.out | apply yA | apply yN | apply yD | refine yS ?_ GE183.out | refine yS ?_ GE202.out) | exact HB.out)⟩⟩
                  ·rw [if_neg c81] at H;have c81b0 : (((rd_T34 l0_0 x8_2).f4) == (rd x3_1 x8_2)) = false := beq_eq_false_iff_ne.mpr c81;have c81b1 : (((rd_T34 l0_0 x8_2).f4) != (rd x3_1 x8_2)) = true := bne_iff_ne.mpr c81;have H' := Aside0.mk H;clear H;obtain ⟨Ao105,co105,eo105⟩ := Kd.R_slice HO_3.out;subst eo105;have p203 : 0 ≤ (x8_2 : Int) := od_ (by first | (with_reducible assumption) | assumption);have q203 : x8_2 < (x3_1.length : Int) := od_ (by first | (with_reducible assumption) | assumption);obtain ⟨ad203,e203,hx203_0⟩ := Kd.at_int (Kd.R_reads' HO_3.out).2.2 x8_2 p203 q203
                   cases e203
                   replace p203 := eq_true p203;replace q203 := eq_true q203;have hnb106 := NB202_183.out;have hnc106 := NB183_202.out;have hcz107 := pk9 BK202.out;have p206 : 0 ≤ (x8_2 : Int) := od_ (by first | (with_reducible assumption) | assumption);have q206 : x8_2 < (x3_1.length : Int) := od_ (by first | (with_reducible assumption) | assumption);obtain ⟨ad206,e206,hx206_0⟩ := Kd.at_int (Kd.R_reads' HO_3.out).2.2 x8_2 p206 q206;obtain rfl : ad203 = ad206 := (by injection e206);replace p206 := eq_true p206;replace q206 := eq_true q206
                   try go_wp2
                   repeat (go_quiet (fail); try go_wp2)
                   go_meet
                   case rel => exact ⟨_,(true),(by first | rfl | (simp; done) | (simp [*]; done)),H',⟨by have := HK1.out; have := HK2.out; first | omega | exact Nat.le_refl _⟩,⟨by (with_reducible repeat (first | apply Kd.R_alloc | apply Kd.R_drewN | apply Kd.R_drew)); exact HO_3.out⟩,⟨by (with_reducible repeat (first | apply Kd.R_alloc | apply Kd.R_drewN | apply Kd.R_drew)); exact HO_6.out⟩,⟨by (with_reducible repeat (first | refine zN ?_ _ | refine zD ?_ | refine zA ?_ _)); first | exact BK183.out | (simp only [*]; exact BK183.out)⟩,⟨by (with_reducible repeat (first | refine zN ?_ _ | refine zD ?_ | refine zA ?_ _)); first | exact BK202.out | (simp only [*]; exact BK202.out)⟩,⟨by repeat (first | (with_reducible first | exact HB.out | apply yA | apply yN | apply yD | refine yS ?_ GE183.out | refine yS ?_ GE202.out) | exact HB.out)⟩⟩
               ·rw [if_neg c44] at H
                exact absurd H (by simp)
              case rest =>
               clear HC38;(try clear c1);(try clear c2);(try clear p2);(try clear q2);(try clear hx2);(try clear c4);(try clear c5);(try clear q5);(try clear c6);(try clear c7);(try clear c8);(try clear q8);(try clear c9);(try clear c10);(try clear c20);(try clear p20);(try clear q20);(try clear hx20);(try clear c44);(try clear c45);(try clear c45b0);(try clear c50);(try clear c50b0);(try clear c50b1);(try clear c51);(try clear c51b0);(try clear c51b1);(try clear c52);(try clear q53);(try clear c63);(try clear c63b0);(try clear c63b1);(try clear c63b2);(try clear c64);(try clear c64b0);(try clear c64b1);(try clear c64b2);(try clear c66);(try clear c69);(try clear c72);(try clear c75);(try clear c77);(try clear c77b0);(try clear c77b1);(try clear c77b2);(try clear c79);(try clear c81);(try clear c81b0);(try clear c81b1);(try clear c82);(try clear c82b0);(try clear c82b1);(try clear c82b2);(try clear c83);(try clear c83b0);(try clear q84);(try clear c85);(try clear c87);(try clear c91);(try clear c94);(try clear c94b0);(try clear c94b1);(try clear c94b2);(try clear c95);(try clear c95b0);(try clear c95b1);(try clear c95b2);(try clear c97);(try clear c100);(try clear c103);(try clear c106);(try clear hcz101);(try clear hcz104);(try clear hcz107);(try clear hcz61);(try clear hcz67);(try clear hcz70);(try clear hcz73);(try clear hcz76);(try clear hcz80);(try clear hcz88);(try clear hcz92);(try clear hcz98);(try clear hx203_0);(try clear hx204_0);(try clear hx205_0);(try clear hx206_0);(try clear hx207_0)
               (try clear p203);(try clear p204);(try clear p205);(try clear p206);(try clear p207);(try clear q203);(try clear q204);(try clear q205);(try clear q206);(try clear q207);obtain ⟨kq,x136_37,rfl,HA,HJ37,HO_3,HO_6,BK183,BK202,HB⟩ := hcut
               cases kq with
               | zero => exact absurd HA.out (by simp [spec_FsOk.j3])
               | succ kj37 =>
                have H := HA.out;clear HA
                simp only [spec_FsOk.j3] at H
                by_cases c108 : x136_37 = true
                ·subst c108;(have H1 : (some false) = some r := by rw [if_pos rfl] at H; exact H);clear H;have H := H1;clear H1;obtain rfl := Option.some.inj H
                 simp only [Option.some.injEq,Prod.mk.injEq] at H
                 obtain ⟨rfl⟩ := H
                 go_wp2
                 go_ret
                 exact ⟨by first | rfl | (simp [errW_none,errW_some] <;> rfl) | (simp [*,errW_none,errW_some] <;> rfl),by repeat (first | (with_reducible first | exact HB.out | apply yA | apply yN | apply yD | refine yS ?_ GE183.out | refine yS ?_ GE202.out) | exact HB.out)⟩
                ·replace c108 := Bool.eq_false_iff.mpr c108;subst c108;(have H1 : (spec_FsOk.l2 kj37 x3_1 t197 true (wrap64 (x8_2 + 1)) l0_0) = some r := by rw [if_neg (show ¬ (false = true) by decide)] at H; exact H);clear H;have H := H1;clear H1;have H' := Aside0.mk H;clear H
                 go_wp2
                 go_roundg kj37
                 case measure => have := HK1.out; have := HK2.out; have := HJ37.out; omega
                 case rel => exact ⟨(wrap64 (x8_2 + 1)),(by first | rfl | (simp; done) | (simp [*]; done)),H',⟨by have := HK1.out; have := HK2.out; have := HJ37.out; omega⟩,⟨by (with_reducible repeat (first | apply Kd.R_alloc | apply Kd.R_drewN | apply Kd.R_drew)); exact HO_3.out⟩,⟨by (with_reducible repeat (first | apply Kd.R_alloc | apply Kd.R_drewN | apply Kd.R_drew)); exact HO_6.out⟩,⟨by (with_reducible repeat (first | refine zN ?_ _ | refine zD ?_ | refine zA ?_ _)); first | exact BK183.out | (simp only [*]; exact BK183.out)⟩,⟨by repeat (first | (with_reducible first | exact HB.out | apply yA | apply yN | apply yD | refine yS ?_ GE183.out | refine yS ?_ GE202.out) | exact HB.out)⟩⟩
             ·rw [if_neg c37] at H
              exact absurd H (by simp)
            ·rw [if_neg c36] at H
             exact absurd H (by simp)
           ·replace c35 := Bool.eq_false_iff.mpr c35;subst c35;(have H1 : (some false) = some r := by rw [if_neg (show ¬ (false = true) by decide)] at H; exact H);clear H;have H := H1;clear H1;obtain rfl := Option.some.inj H
            simp only [Option.some.injEq,Prod.mk.injEq] at H
            obtain ⟨rfl⟩ := H
            go_wp2
            go_ret
            exact ⟨by first | rfl | (simp [errW_none,errW_some] <;> rfl) | (simp [*,errW_none,errW_some] <;> rfl),by repeat (first | (with_reducible first | exact HB.out | apply yA | apply yN | apply yD | refine yS ?_ GE183.out) | exact HB.out)⟩
          ·rw [if_neg c34] at H;have c34b0 : decide (x8_2 < 10) = false := decide_eq_false c34;clear c34;obtain rfl := Option.some.inj H
           simp only [Option.some.injEq,Prod.mk.injEq] at H
           obtain ⟨rfl⟩ := H
           go_wp2
           go_ret
           exact ⟨by first | rfl | (simp [errW_none,errW_some] <;> rfl) | (simp [*,errW_none,errW_some] <;> rfl),by repeat (first | (with_reducible first | exact HB.out | apply yA | apply yN | apply yD | refine yS ?_ GE183.out) | exact HB.out)⟩
       ·rw [if_neg c30] at H;have c30b0 : (((rd_T34 l0_0 0).f0) == 2) = false := beq_eq_false_iff_ne.mpr c30;have c30b1 : (((rd_T34 l0_0 0).f0) != 2) = true := bne_iff_ne.mpr c30;obtain rfl := Option.some.inj H
        simp only [Option.some.injEq,Prod.mk.injEq] at H
        obtain ⟨rfl⟩ := H;have hcz109 := pk1 BK183.out;have p196 : 0 ≤ (0 : Int) := (by omega);have q196 : 0 < (l0_0.length : Int) := od_ (by first | (with_reducible assumption) | assumption);obtain ⟨ad196,A196_8,c196_8,e196,hx196_0,hx196_1,hx196_2,hx196_3,hx196_4,hx196_5,hx196_6,hx196_7,hx196_8,hl196_8,hi196_8⟩ := at_T34 HR0_0.out 0 p196 q196
        cases e196
        have qi196 : (0 < l0_0.length) = True := eq_true (by omega);(try rw [show ((0 : Int)).toNat = 0 from rfl] at hx196_0);(try rw [show 0 * 9 = 0 from rfl] at hx196_0);(try rw [Addr.add_zero'] at hx196_0);(try rw [show ((0 : Int)).toNat = 0 from rfl] at hx196_1);(try rw [show 0 * 9 = 0 from rfl] at hx196_1);(try rw [Addr.add_zero'] at hx196_1);(try rw [show ((0 : Int)).toNat = 0 from rfl] at hx196_2);(try rw [show 0 * 9 = 0 from rfl] at hx196_2);(try rw [Addr.add_zero'] at hx196_2);(try rw [show ((0 : Int)).toNat = 0 from rfl] at hx196_3);(try rw [show 0 * 9 = 0 from rfl] at hx196_3);(try rw [Addr.add_zero'] at hx196_3);(try rw [show ((0 : Int)).toNat = 0 from rfl] at hx196_4);(try rw [show 0 * 9 = 0 from rfl] at hx196_4);(try rw [Addr.add_zero'] at hx196_4);(try rw [show ((0 : Int)).toNat = 0 from rfl] at hx196_5);(try rw [show 0 * 9 = 0 from rfl] at hx196_5);(try rw [Addr.add_zero'] at hx196_5);(try rw [show ((0 : Int)).toNat = 0 from rfl] at hx196_6);(try rw [show 0 * 9 = 0 from rfl] at hx196_6);(try rw [Addr.add_zero'] at hx196_6);(try rw [show ((0 : Int)).toNat = 0 from rfl] at hx196_7);(try rw [show 0 * 9 = 0 from rfl] at hx196_7);(try rw [Addr.add_zero'] at hx196_7);(try rw [show ((0 : Int)).toNat = 0 from rfl] at hx196_8);(try rw [show 0 * 9 = 0 from rfl] at hx196_8);(try rw [Addr.add_zero'] at hx196_8);replace hx196_0 := bc_ HB hx196_0;replace hx196_1 := bc_ HB hx196_1;replace hx196_2 := bc_ HB hx196_2
        replace hx196_3 := bc_ HB hx196_3;replace hx196_4 := bc_ HB hx196_4;replace hx196_5 := bc_ HB hx196_5;replace hx196_6 := bc_ HB hx196_6;replace hx196_7 := bc_ HB hx196_7;replace hx196_8 := bc_ HB hx196_8;have HR196_8 := Aside0.mk hi196_8;have HC196_8 := Aside0.mk hl196_8;clear hi196_8 hl196_8;replace p196 := eq_true p196;replace q196 := eq_true q196
        go_wp2
        go_ret
        exact ⟨by first | rfl | (simp [errW_none,errW_some] <;> rfl) | (simp [*,errW_none,errW_some] <;> rfl),by repeat (first | (with_reducible first | exact HB.out | apply yA | apply yN | apply yD | refine yS ?_ GE183.out) | exact HB.out)⟩
      ·rw [if_neg c29] at H
       exact absurd H (by simp)
  ·rw [if_neg c3] at H
   exact absurd H (by simp)
 ·rw [if_neg c2] at H;have c2b0 : ((l0_0.length : Int) == 10) = false := beq_eq_false_iff_ne.mpr c2;have c2b1 : ((l0_0.length : Int) != 10) = true := bne_iff_ne.mpr c2;obtain rfl := Option.some.inj H
  simp only [Option.some.injEq,Prod.mk.injEq] at H
  obtain ⟨rfl⟩ := H
  go_enter Try.func16,Try.ntmps16
  go_wp2_with (first | ((with_reducible refine gate_dst (N := 1) rfl ?_); refine box_event ?hg (N := 1) ?hd (cs := #[.slice A0_0 l0_0.length c0_0]) (t := 27) ?hr ?_; (case hd => rfl); (case hg => rfl); (case hr => first | (go_simp; done) | (go_simp; rfl)); intro gb183 hg w110 hbox hb; have n0_ := Aside0.mk (below_step (by repeat (first | (with_reducible first | exact HB.out | apply yA | apply yN | apply yD) | exact HB.out)) hb); have n1_ := Aside0.mk (hbox); have n2_ := Aside0.mk ((by rw [hg]; exact (below_size (by repeat (first | (with_reducible first | exact HB.out | apply yA | apply yN | apply yD) | exact HB.out))) : w.heap.size ≤ gb183)); have n3_ := Aside0.mk ((by rw [hg]; exact (below_size (by repeat (first | (with_reducible first | exact HB.out | apply yA | apply yN | apply yD) | exact HB.out))) : w.heap.size ≤ gb183)); clear HB; have HB := n0_; have BK183 := n1_; have GW183 := n2_; have GE183 := n3_; clear n0_ n1_ n2_ n3_; clear hb hbox hg; have hcz111 := pk1 BK183.out))
  go_ret
  exact ⟨by first | rfl | (simp [errW_none,errW_some] <;> rfl) | (simp [*,errW_none,errW_some] <;> rfl),by repeat (first | (with_reducible first | exact HB.out | apply yA | apply yN | apply yD | refine yS ?_ GE183.out) | exact HB.out)⟩

end Go.Proofs.Ytpljcphiaajjaaa.XFnExactFsOk
