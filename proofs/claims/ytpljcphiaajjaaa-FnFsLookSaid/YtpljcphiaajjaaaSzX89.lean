/- The contract of function 89, proved without the evaluator. No condition. -/
import Derived.Test.YtpljcphiaajjaaaSzU
import Derived.Test.YtpljcphiaajjaaaSzX
import Derived.WalkKit
import Derived.Lib.Bytealg
import Derived.Deep.Draws
set_option linter.unusedVariables false
set_option linter.unusedSimpArgs false
namespace Go.Sx
open Go.RowKit Go.Proofs
set_option maxHeartbeats 1000000 in
set_option maxRecDepth 100000 in
theorem cmp89 (a b : ByteArray) (w : World) : Calls Try.prog 89 #[.string a, .string b] w fun e w' => e = .returned (.int .i64 (Lib.compareBytes a.data.toList b.data.toList)) ∧ w' = w := by
  go_enter Try.func89, Try.ntmps89
  go_wp2
  rw [run_callFunc_extern Try.func98 (by kernel_rfl) (by kernel_rfl) (by kernel_rfl) (e := Extern.BytealgCompare.compare) (by kernel_rfl), Lib.run_compareString]
  simp only [Result.andThen]
  rw [Oper.upon_value]
  go_wp2
  go_ret
  exact ⟨rfl, rfl⟩
def f89 (_ : Nat) : ByteArray × ByteArray → Option Int := fun a => some (Lib.compareBytes a.1.data.toList a.2.data.toList)
theorem snd89 (E : Bool) (k : Nat) : Snd Try.prog (UU E) 89 (W (Dl.cons (Dc.str (UU E)) (Dl.one (Dc.str (UU E)))) (f89 k) (Dc.int (UU E) .i64)) := by
  refine snd_ext Try.func89 (by kernel_rfl) (by kernel_rfl) ?_
  intro a r h w M vs hv
  cases h
  obtain ⟨v, ws, rfl, h1, h2⟩ := hv.head
  obtain ⟨v2, ws2, rfl, h3, h4⟩ := h2.head
  cases h1
  cases h3
  obtain rfl : ws2 = [] := by have := h4.1; simpa using this.symm
  refine (cmp89 a.1 a.2 w).mono fun e w' ⟨he, hw⟩ => ⟨_, he, by rw [hw]; exact Below.refl _ _, .v _⟩
end Go.Sx
