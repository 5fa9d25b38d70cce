-- Written by the kit's printer at the call of wip/tools/xprint.sh (this session's knobs and contracts). Not trusted: Lean checks it.
import Derived.Test.YtjajfbgijailmaaProg
import Derived.Below
import Derived.Deep.Draws
import Derived.Deep.AppendLies
import Derived.Maps.AppendAt
import Derived.OwnWalk
import Derived.Laws.BytesArg
import Derived.Laws.MakeOwn
import Derived.Laws.OwnMore
import Derived.Deep.OwnRows
import Derived.Tactics
import Derived.Lib.ConvBytes
import Derived.Laws.Slices
import Derived.WalkKit
import Derived.KernelRfl
import Derived.RowKit3
import Derived.Deep.LoopGhost
import Derived.Deep.QuietTactic
import Derived.BigQuiet
import Derived.WideLaws
import Derived.Deep.DeepCutAuto
import Derived.Deep.CutBlock
import Derived.Deep.RegionHeld3
import Derived.Laws.Rows
import Derived.Lib.AppendStr
import Derived.ArgAppend
import Derived.Laws.IdiomCopy
import Derived.OrdersHeld
import Derived.Laws.BitsLemmas
import Derived.RowKit
import Derived.Test.YtjajfbgijailmaaME
import Derived.Laws.Cover1
import Derived.Test.YtjajfbgijailmaaWWords
import Derived.Test.YtjajfbgijailmaaWLast
import Derived.Test.YtjajfbgijailmaaWTab
import Derived.Test.YtjajfbgijailmaaWFour
import Derived.Test.YtjajfbgijailmaaWQPut
import Derived.Test.YtjajfbgijailmaaWApart
import Derived.Test.YtjajfbgijailmaaWArr
import Derived.Test.YtjajfbgijailmaaWZeros
import Derived.Test.YtjajfbgijailmaaWFoot
import Derived.Test.YtjajfbgijailmaaWKept
import Derived.Test.YtjajfbgijailmaaWShare
import Derived.Test.YtjajfbgijailmaaWN
import Derived.Test.YtjajfbgijailmaaWFootNe
import Derived.Test.YtjajfbgijailmaaWAt
import Derived.Test.YtjajfbgijailmaaWEqStruct
import Derived.Test.YtjajfbgijailmaaWRepsOne
import Derived.Test.YtjajfbgijailmaaWInv
import Derived.Test.YtjajfbgijailmaaWInvWords
import Derived.Test.YtjajfbgijailmaaWGuard
import Derived.Test.YtjajfbgijailmaaWNEv
import Derived.Test.YtjajfbgijailmaaWMore
namespace Go.Proofs.Ytjajfbgijailmaa.XFnExactFsNew
open Go.RowKit Go.Proofs.YtjajfbgijailmaaW.PrintWords Go.Proofs.YtjajfbgijailmaaW.PrintLast Go.Proofs.YtjajfbgijailmaaW.PrintMore
attribute [local go_sem] max2_int min2_int max_two min_two max_three min_three max_four min_four   -- for this text's walks alone
set_option linter.unusedVariables false
set_option linter.unusedSimpArgs false



def errW : Option Int → Value
 | none => .nilIface
 | some c => .iface 0 (.int .i64 c)
theorem errW_none : errW none = .nilIface := rfl
theorem errW_some (c : Int) : errW (some c) = .iface 0 (.int .i64 c) := rfl

theorem info5 : (Try.prog.info? 5).map (fun i => (i.zero,i.size,i.bytes)) = some (some (.int .u8 0),1,1) := by kernel_rfl
theorem info87 : (Try.prog.info? 87).map (fun i => (i.zero,i.size,i.bytes)) = some (some (.agg #[(.int .i64 0),(.int .i64 0),(.int .i64 0),(.int .i64 0),(.int .i64 0),(.int .i64 0),(.bool false),(.string ⟨#[]⟩),(.slice none 0 0)]),9,96) := by kernel_rfl
theorem info119 : (Try.prog.info? 119).map (fun i => (i.zero,i.size,i.bytes)) = some (some (.agg #[(.string ⟨#[]⟩),(.int .i64 0)]),2,24) := by kernel_rfl
-- the values' own types
/-! #### struct type 119 -/
structure S119 where
 f0 : ByteArray
 f1 : Int
def z119 : S119 := ⟨(⟨#[]⟩ : ByteArray),(0 : Int)⟩
def k119 : Kd S119 := Kd.iso (Kd.pair Kd.string (Kd.int .i64)) (fun x : S119 => (x.f0,x.f1))
theorem k119_open {w : World} {x : S119} {cs : List Value} (h : k119.K w x cs) : cs = [.string x.f0,.int .i64 x.f1] := by
 obtain ⟨_,_,rfl,rfl,rfl⟩ := h
 exact rfl
theorem k119_openM {w : World} {base : Nat} {ok : Nat → Prop} {x : S119} {cs : List Value} (h : k119.M w base ok x cs) : cs = [.string x.f0,.int .i64 x.f1] := by
 obtain ⟨_,_,rfl,rfl,rfl⟩ := h
 exact rfl
theorem k119_mk (w : World) (x : S119)  : k119.K w x [.string x.f0,.int .i64 x.f1] := ⟨[.string x.f0],[.int .i64 x.f1],rfl,rfl,rfl⟩
theorem k119_mkM (w : World) (base : Nat) (ok : Nat → Prop) (x : S119)  : k119.M w base ok x [.string x.f0,.int .i64 x.f1] := ⟨[.string x.f0],[.int .i64 x.f1],rfl,rfl,rfl⟩
def rd_T119 (xs : List S119) (i : Int) : S119 := xs.getD i.toNat z119
theorem at_T119 {w : World} {A : Option Addr} {n : Nat} {xs : List S119} (h : Kd.C k119 w A n xs) (i : Int) (h0 : 0 ≤ i) (h1 : i < n) : ∃ ad ,A = some ad ∧ w.cell? (ad.add (i.toNat * 2)) = some (.string (rd_T119 xs i).f0) ∧ w.cell? ⟨(ad.add (i.toNat * 2)).block,(ad.add (i.toNat * 2)).off + 1,none⟩ = some (.int .i64 (rd_T119 xs i).f1) := by
 obtain ⟨ad,c,e,_,hK,hc0⟩ := Kd.C_get h z119 i h0 h1
 have hc : ∀ j u,c[j]? = some u → w.cell? (ad.add (i.toNat * 2 + j)) = some u := hc0
 obtain rfl := k119_open hK
 exact ⟨ad,e,hc 0 _ rfl,by rw [← add_field _ _ 1 (by omega)]; exact hc 1 _ rfl⟩

def rd_L4 (xs : List (List S119)) (i : Int) : (List S119) := xs.getD i.toNat ([] : List S119)
theorem at_L4 {w : World} {A : Option Addr} {n : Nat} {xs : List (List S119)} (h : Kd.C (Kd.slice 119 k119) w A n xs) (i : Int) (h0 : 0 ≤ i) (h1 : i < n) : ∃ ad A0 c0,A = some ad ∧ w.cell? (ad.add i.toNat) = some (.slice A0 (rd_L4 xs i).length c0) ∧ (rd_L4 xs i).length ≤ c0 ∧ k119.C w A0 (rd_L4 xs i).length (rd_L4 xs i) := by
 obtain ⟨ad,c,e,_,hK,hc0⟩ := Kd.C_get h ([] : List S119) i h0 h1
 have hc : ∀ j u,c[j]? = some u → w.cell? (ad.add (i.toNat * 1 + j)) = some u := hc0
 obtain ⟨A0,c0,rfl,l0,g0⟩ := hK
 exact ⟨ad,A0,c0,e,by have hq := hc 0 _ rfl; rwa [Nat.mul_one,Nat.add_zero] at hq,l0,g0⟩

/-! #### struct type 87 -/
structure S87 where
 f0 : Int
 f1 : Int
 f2 : Int
 f3 : Int
 f4 : Int
 f5 : Int
 f6 : Bool
 f7 : ByteArray
 f8 : (List S119)
def z87 : S87 := ⟨(0 : Int),(0 : Int),(0 : Int),(0 : Int),(0 : Int),(0 : Int),false,(⟨#[]⟩ : ByteArray),([] : List S119)⟩
def k87 : Kd S87 := Kd.iso (Kd.pair (Kd.int .i64) (Kd.pair (Kd.int .i64) (Kd.pair (Kd.int .i64) (Kd.pair (Kd.int .i64) (Kd.pair (Kd.int .i64) (Kd.pair (Kd.int .i64) (Kd.pair Kd.bool (Kd.pair Kd.string (Kd.slice 119 k119))))))))) (fun x : S87 => (x.f0,x.f1,x.f2,x.f3,x.f4,x.f5,x.f6,x.f7,x.f8))
theorem k87_open {w : World} {x : S87} {cs : List Value} (h : k87.K w x cs) : ∃ A8 c8,cs = [.int .i64 x.f0,.int .i64 x.f1,.int .i64 x.f2,.int .i64 x.f3,.int .i64 x.f4,.int .i64 x.f5,.bool x.f6,.string x.f7,.slice A8 x.f8.length c8] ∧ x.f8.length ≤ c8 ∧ k119.C w A8 x.f8.length x.f8 := by
 obtain ⟨_,_,rfl,rfl,⟨_,_,rfl,rfl,⟨_,_,rfl,rfl,⟨_,_,rfl,rfl,⟨_,_,rfl,rfl,⟨_,_,rfl,rfl,⟨_,_,rfl,rfl,⟨_,_,rfl,rfl,⟨A8,c8,rfl,l8,g8⟩⟩⟩⟩⟩⟩⟩⟩⟩ := h
 exact ⟨A8,c8,rfl,l8,g8⟩
theorem k87_openM {w : World} {base : Nat} {ok : Nat → Prop} {x : S87} {cs : List Value} (h : k87.M w base ok x cs) : ∃ v8,cs = [.int .i64 x.f0,.int .i64 x.f1,.int .i64 x.f2,.int .i64 x.f3,.int .i64 x.f4,.int .i64 x.f5,.bool x.f6,.string x.f7,v8] ∧ k119.R 119 w base ok v8 x.f8 := by
 obtain ⟨_,_,rfl,rfl,⟨_,_,rfl,rfl,⟨_,_,rfl,rfl,⟨_,_,rfl,rfl,⟨_,_,rfl,rfl,⟨_,_,rfl,rfl,⟨_,_,rfl,rfl,⟨_,_,rfl,rfl,⟨v8,rfl,g8⟩⟩⟩⟩⟩⟩⟩⟩⟩ := h
 exact ⟨v8,rfl,g8⟩
theorem k87_mk (w : World) (x : S87) {A8 : Option Addr} {c8 : Nat} (l8 : x.f8.length ≤ c8) (g8 : k119.C w A8 x.f8.length x.f8) : k87.K w x [.int .i64 x.f0,.int .i64 x.f1,.int .i64 x.f2,.int .i64 x.f3,.int .i64 x.f4,.int .i64 x.f5,.bool x.f6,.string x.f7,.slice A8 x.f8.length c8] := ⟨[.int .i64 x.f0],[.int .i64 x.f1,.int .i64 x.f2,.int .i64 x.f3,.int .i64 x.f4,.int .i64 x.f5,.bool x.f6,.string x.f7,.slice A8 x.f8.length c8],rfl,rfl,⟨[.int .i64 x.f1],[.int .i64 x.f2,.int .i64 x.f3,.int .i64 x.f4,.int .i64 x.f5,.bool x.f6,.string x.f7,.slice A8 x.f8.length c8],rfl,rfl,⟨[.int .i64 x.f2],[.int .i64 x.f3,.int .i64 x.f4,.int .i64 x.f5,.bool x.f6,.string x.f7,.slice A8 x.f8.length c8],rfl,rfl,⟨[.int .i64 x.f3],[.int .i64 x.f4,.int .i64 x.f5,.bool x.f6,.string x.f7,.slice A8 x.f8.length c8],rfl,rfl,⟨[.int .i64 x.f4],[.int .i64 x.f5,.bool x.f6,.string x.f7,.slice A8 x.f8.length c8],rfl,rfl,⟨[.int .i64 x.f5],[.bool x.f6,.string x.f7,.slice A8 x.f8.length c8],rfl,rfl,⟨[.bool x.f6],[.string x.f7,.slice A8 x.f8.length c8],rfl,rfl,⟨[.string x.f7],[.slice A8 x.f8.length c8],rfl,rfl,⟨A8,c8,rfl,l8,g8⟩⟩⟩⟩⟩⟩⟩⟩⟩
theorem k87_mkM (w : World) (base : Nat) (ok : Nat → Prop) (x : S87) {v8 : Value} (g8 : k119.R 119 w base ok v8 x.f8) : k87.M w base ok x [.int .i64 x.f0,.int .i64 x.f1,.int .i64 x.f2,.int .i64 x.f3,.int .i64 x.f4,.int .i64 x.f5,.bool x.f6,.string x.f7,v8] := ⟨[.int .i64 x.f0],[.int .i64 x.f1,.int .i64 x.f2,.int .i64 x.f3,.int .i64 x.f4,.int .i64 x.f5,.bool x.f6,.string x.f7,v8],rfl,rfl,⟨[.int .i64 x.f1],[.int .i64 x.f2,.int .i64 x.f3,.int .i64 x.f4,.int .i64 x.f5,.bool x.f6,.string x.f7,v8],rfl,rfl,⟨[.int .i64 x.f2],[.int .i64 x.f3,.int .i64 x.f4,.int .i64 x.f5,.bool x.f6,.string x.f7,v8],rfl,rfl,⟨[.int .i64 x.f3],[.int .i64 x.f4,.int .i64 x.f5,.bool x.f6,.string x.f7,v8],rfl,rfl,⟨[.int .i64 x.f4],[.int .i64 x.f5,.bool x.f6,.string x.f7,v8],rfl,rfl,⟨[.int .i64 x.f5],[.bool x.f6,.string x.f7,v8],rfl,rfl,⟨[.bool x.f6],[.string x.f7,v8],rfl,rfl,⟨[.string x.f7],[v8],rfl,rfl,⟨v8,rfl,g8⟩⟩⟩⟩⟩⟩⟩⟩⟩
def rd_T87 (xs : List S87) (i : Int) : S87 := xs.getD i.toNat z87
theorem at_T87 {w : World} {A : Option Addr} {n : Nat} {xs : List S87} (h : Kd.C k87 w A n xs) (i : Int) (h0 : 0 ≤ i) (h1 : i < n) : ∃ ad A8 c8,A = some ad ∧ w.cell? (ad.add (i.toNat * 9)) = some (.int .i64 (rd_T87 xs i).f0) ∧ w.cell? ⟨(ad.add (i.toNat * 9)).block,(ad.add (i.toNat * 9)).off + 1,none⟩ = some (.int .i64 (rd_T87 xs i).f1) ∧ w.cell? ⟨(ad.add (i.toNat * 9)).block,(ad.add (i.toNat * 9)).off + 2,none⟩ = some (.int .i64 (rd_T87 xs i).f2) ∧ w.cell? ⟨(ad.add (i.toNat * 9)).block,(ad.add (i.toNat * 9)).off + 3,none⟩ = some (.int .i64 (rd_T87 xs i).f3) ∧ w.cell? ⟨(ad.add (i.toNat * 9)).block,(ad.add (i.toNat * 9)).off + 4,none⟩ = some (.int .i64 (rd_T87 xs i).f4) ∧ w.cell? ⟨(ad.add (i.toNat * 9)).block,(ad.add (i.toNat * 9)).off + 5,none⟩ = some (.int .i64 (rd_T87 xs i).f5) ∧ w.cell? ⟨(ad.add (i.toNat * 9)).block,(ad.add (i.toNat * 9)).off + 6,none⟩ = some (.bool (rd_T87 xs i).f6) ∧ w.cell? ⟨(ad.add (i.toNat * 9)).block,(ad.add (i.toNat * 9)).off + 7,none⟩ = some (.string (rd_T87 xs i).f7) ∧ w.cell? ⟨(ad.add (i.toNat * 9)).block,(ad.add (i.toNat * 9)).off + 8,none⟩ = some (.slice A8 (rd_T87 xs i).f8.length c8) ∧ (rd_T87 xs i).f8.length ≤ c8 ∧ k119.C w A8 (rd_T87 xs i).f8.length (rd_T87 xs i).f8 := by
 obtain ⟨ad,c,e,_,hK,hc0⟩ := Kd.C_get h z87 i h0 h1
 have hc : ∀ j u,c[j]? = some u → w.cell? (ad.add (i.toNat * 9 + j)) = some u := hc0
 obtain ⟨A8,c8,rfl,l8,g8⟩ := k87_open hK
 exact ⟨ad,A8,c8,e,hc 0 _ rfl,by rw [← add_field _ _ 1 (by omega)]; exact hc 1 _ rfl,by rw [← add_field _ _ 2 (by omega)]; exact hc 2 _ rfl,by rw [← add_field _ _ 3 (by omega)]; exact hc 3 _ rfl,by rw [← add_field _ _ 4 (by omega)]; exact hc 4 _ rfl,by rw [← add_field _ _ 5 (by omega)]; exact hc 5 _ rfl,by rw [← add_field _ _ 6 (by omega)]; exact hc 6 _ rfl,by rw [← add_field _ _ 7 (by omega)]; exact hc 7 _ rfl,by rw [← add_field _ _ 8 (by omega)]; exact hc 8 _ rfl,l8,g8⟩

theorem pk1 {w : World} {g : Nat} {t : TypeId} {c0 : Value} (h : w.heap[g]? = some (.cells #[c0] t (0,0))) : w.cell? ⟨g,0,none⟩ = some c0 ∧ w.frozen? ⟨g,0,none⟩ = false := ⟨(blk_cell h 0).trans rfl,blk_frozen h 0⟩
theorem pk2 {w : World} {g : Nat} {t : TypeId} {c0 c1 : Value} (h : w.heap[g]? = some (.cells #[c0,c1] t (0,0))) : w.cell? ⟨g,0,none⟩ = some c0 ∧ w.cell? ⟨g,1,none⟩ = some c1 ∧ w.frozen? ⟨g,0,none⟩ = false ∧ w.frozen? ⟨g,1,none⟩ = false := ⟨(blk_cell h 0).trans rfl,(blk_cell h 1).trans rfl,blk_frozen h 0,blk_frozen h 1⟩
theorem pk9 {w : World} {g : Nat} {t : TypeId} {c0 c1 c2 c3 c4 c5 c6 c7 c8 : Value} (h : w.heap[g]? = some (.cells #[c0,c1,c2,c3,c4,c5,c6,c7,c8] t (0,0))) : w.cell? ⟨g,0,none⟩ = some c0 ∧ w.cell? ⟨g,1,none⟩ = some c1 ∧ w.cell? ⟨g,2,none⟩ = some c2 ∧ w.cell? ⟨g,3,none⟩ = some c3 ∧ w.cell? ⟨g,4,none⟩ = some c4 ∧ w.cell? ⟨g,5,none⟩ = some c5 ∧ w.cell? ⟨g,6,none⟩ = some c6 ∧ w.cell? ⟨g,7,none⟩ = some c7 ∧ w.cell? ⟨g,8,none⟩ = some c8 ∧ w.frozen? ⟨g,0,none⟩ = false ∧ w.frozen? ⟨g,1,none⟩ = false ∧ w.frozen? ⟨g,2,none⟩ = false ∧ w.frozen? ⟨g,3,none⟩ = false ∧ w.frozen? ⟨g,4,none⟩ = false ∧ w.frozen? ⟨g,5,none⟩ = false ∧ w.frozen? ⟨g,6,none⟩ = false ∧ w.frozen? ⟨g,7,none⟩ = false ∧ w.frozen? ⟨g,8,none⟩ = false := ⟨(blk_cell h 0).trans rfl,(blk_cell h 1).trans rfl,(blk_cell h 2).trans rfl,(blk_cell h 3).trans rfl,(blk_cell h 4).trans rfl,(blk_cell h 5).trans rfl,(blk_cell h 6).trans rfl,(blk_cell h 7).trans rfl,(blk_cell h 8).trans rfl,blk_frozen h 0,blk_frozen h 1,blk_frozen h 2,blk_frozen h 3,blk_frozen h 4,blk_frozen h 5,blk_frozen h 6,blk_frozen h 7,blk_frozen h 8⟩
end Go.Proofs.Ytjajfbgijailmaa.XFnExactFsNew
