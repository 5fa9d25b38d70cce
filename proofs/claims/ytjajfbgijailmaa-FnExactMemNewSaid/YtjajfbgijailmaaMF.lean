/- laws.mark..S at an empty row: nothing is written. Its contract, by hand. -/
import Derived.Test.YtjajfbgijailmaaProg
import Derived.WalkKit
import Derived.Deep.Draws
import Derived.Test.YtjajfbgijailmaaWWords
import Derived.Test.YtjajfbgijailmaaWMore
namespace Go.Proofs.Ytjajfbgijailmaa.ME
open Go.RowKit Go.Proofs.YtjajfbgijailmaaW.PrintWords
set_option linter.unusedVariables false
def laws_markAreaS.f {α : Type} (l : List α) (a1 : Int) : Option Int := if l.length = 0 then some a1 else none
set_option maxHeartbeats 2000000 in
theorem laws_markAreaS.calls {α : Type} {d : Kd α} (A0 : Option Addr) (c0 : Nat) (l0 : List α) (a1 : Int) (r : Int) (w : World) (hr0 : Kd.C d w A0 l0.length l0) (hc0 : l0.length ≤ c0) (h : laws_markAreaS.f l0 a1 = some r) :
    Calls Try.prog 71 #[.slice A0 l0.length c0, .int .i64 a1] w fun e w' => e = .returned (.int .i64 r) ∧ Below w.heap.size w w' := by
  unfold laws_markAreaS.f at h
  by_cases c : l0.length = 0
  · rw [if_pos c] at h
    obtain rfl := Option.some.inj h
    rw [c]
    clear hr0 hc0 c h
    go_enter Try.func71, Try.ntmps71
    go_wp2
    go_loopg [1, 5] 0 (fun _ v1 v5 w' => v1 = .int .i64 a1 ∧ v5 = .int .i64 0 ∧ Below w.heap.size w w')
    case atStart => exact ⟨rfl, rfl, Below.refl _ w⟩
    case round =>
      obtain ⟨rfl, rfl, hb⟩ := hrel
      go_wp2
      go_ret
      exact ⟨rfl, hb⟩
  · rw [if_neg c] at h
    cases h
def laws_markSlotS.f {α : Type} (l : List α) (a1 : Int) : Option Int := if l.length = 0 then some a1 else none
set_option maxHeartbeats 2000000 in
theorem laws_markSlotS.calls {α : Type} {d : Kd α} (A0 : Option Addr) (c0 : Nat) (l0 : List α) (a1 : Int) (r : Int) (w : World) (hr0 : Kd.C d w A0 l0.length l0) (hc0 : l0.length ≤ c0) (h : laws_markSlotS.f l0 a1 = some r) :
    Calls Try.prog 72 #[.slice A0 l0.length c0, .int .i64 a1] w fun e w' => e = .returned (.int .i64 r) ∧ Below w.heap.size w w' := by
  unfold laws_markSlotS.f at h
  by_cases c : l0.length = 0
  · rw [if_pos c] at h
    obtain rfl := Option.some.inj h
    rw [c]
    clear hr0 hc0 c h
    go_enter Try.func72, Try.ntmps72
    go_wp2
    go_loopg [1, 5] 0 (fun _ v1 v5 w' => v1 = .int .i64 a1 ∧ v5 = .int .i64 0 ∧ Below w.heap.size w w')
    case atStart => exact ⟨rfl, rfl, Below.refl _ w⟩
    case round =>
      obtain ⟨rfl, rfl, hb⟩ := hrel
      go_wp2
      go_ret
      exact ⟨rfl, hb⟩
  · rw [if_neg c] at h
    cases h
end Go.Proofs.Ytjajfbgijailmaa.ME
