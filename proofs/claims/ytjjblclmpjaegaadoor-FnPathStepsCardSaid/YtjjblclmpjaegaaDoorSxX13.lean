/- The contract of function 13, proved without the evaluator. No condition. -/
import Derived.Test.YtjjblclmpjaegaaDoorProg
import Derived.Shelf.Small.Wraps
import Derived.Test.YtjjblclmpjaegaaDoorSxX
import Derived.Test.YtjjblclmpjaegaaDoorSxU
set_option linter.unusedVariables false
set_option linter.unusedSimpArgs false
namespace Go.Sx
open Go.Shelf Go.RowKit Go.Lib Go.Proofs
def l103_ren : Go.Shelf.Ren := ⟨fun | 103 => 13 | 210 => 24 | 206 => 30 | n => n, fun | 9 => 9 | 4 => 4 | 24 => 31 | 3 => 3 | n => n, fun | n => n⟩
theorem l103 : Go.Proofs.Lays.n103 Tryd.prog l103_ren := {
  mixed := by kernel_rfl
  f103 := Tryd.func13.trans (congrArg some (by kernel_rfl))
  f206 := Tryd.func30.trans (congrArg some (by kernel_rfl))
  f210 := Tryd.func24.trans (congrArg some (by kernel_rfl))
  t3 := Tryd.underlying3
  a3 := Tryd.isAgg3
  z3 := Tryd.sizeOf3
  v3 := Tryd.zeroValue3
  t4 := Tryd.underlying4
  a4 := Tryd.isAgg4
  z4 := Tryd.sizeOf4
  v4 := Tryd.zeroValue4
  t9 := Tryd.underlying9
  a9 := Tryd.isAgg9
  z9 := Tryd.sizeOf9
  v9 := Tryd.zeroValue9
  t24 := Tryd.underlying31
  a24 := Tryd.isAgg31
  z24 := Tryd.sizeOf31
  v24 := Tryd.zeroValue31 }
def f13 (_ : Nat) : ByteArray × ByteArray → Option (ByteArray × Bool) := fun a => some (⟨(Lib.trimPrefix a.1.data.toList a.2.data.toList).toArray⟩, Lib.hasPrefix a.1.data.toList a.2.data.toList)
theorem snd13 (k : Nat) : Snd Tryd.prog UU 13 (W (Dl.cons (Dc.str UU) (Dl.one (Dc.str UU))) (f13 k) (Dc.tup (Dl.cons (Dc.str UU) (Dl.one (Dc.bool UU))))) := by
  refine snd_ext Tryd.func13 (by kernel_rfl) (by kernel_rfl) ?_
  intro a r h w M vs hv
  cases h
  obtain ⟨v, ws, rfl, h1, h2⟩ := hv.head
  obtain ⟨v2, ws2, rfl, h3, h4⟩ := h2.head
  cases h1
  cases h3
  obtain rfl : ws2 = [] := by have := h4.1; simpa using this.symm
  have c := Any.strings_CutPrefix l103 a.1 a.2 w
  refine Calls.mono (show Calls Tryd.prog 13 _ w _ from c) fun e w' ⟨he, hw⟩ => ⟨_, he, by rw [hw]; exact Below.refl _ _, ?_⟩
  exact .tup _ _ rfl fun i h1 h2 => (match i, h1 with
    | 0, _ => .v _
    | 1, _ => .v _)
end Go.Sx
