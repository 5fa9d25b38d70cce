/-
  No cell of these rows narrows 'for every input' (looked for: loops, veiled, ifaces, maps, wideKeys, modest, calm, conditions, laid).
  DERIVED. THE GIVEN ROWS OF THIS SEAT. 6 by the template 'for every input the law returns true; each argument reads behind the call as it read before'; 0 by the template 'total and deterministic' (their statements: YtjokfjjdachpiaaTotals.lean).
  GIVEN WITH THE SEED: the statements are not yours to turn. If you find one false, say at which input.
  Laid BY PROGRAM, IN A SANDBOX (cutbox-rows.mjs): the forced cells as the released guide's own fill.sh prints them over the translation 1164aff3ca5548a8… (all of the seat's roots in one cut). By AI agents, Wed Nov 11 2026. No macro, syntax, notation, axiom, sorry.
-/
import Derived.Test.YtjokfjjdachpiaaChecked
import GoSem.Claim
import GoSem.ClaimJoined
import GoSem.ClaimMapViews
import Derived.JoinedTies
import Derived.KernelRfl
namespace Go.Proofs.Ytjokfjjdachpiaa
/- THE CELL 'sum', in the pinned program and in every row, IS THE sha256 OF THE DUMP (.gsa) THAT YtjokfjjdachpiaaProg.lean LOADS. Nothing in Lean hashes anything: it is a label: what it is worth is what the hold of that sum in a sandbox is worth. -/
noncomputable def Try.pinned : Pinned := { name := "ytjokfjjdachpiaa", sum := "1164aff3ca5548a81f0c4b5143a484a43bdfc915ff7cc6f15e906e91abd70511", checked := Try.checked }
namespace Rows
def none {H : Type} : Left H := { results := [], args := [] }

/-- 'laws.FnCredSignal': WHATEVER THE INPUT: true; the input reads as it did. -/
def fnCredSignalSpec : ChangeSpec := { name := "fnCredSignal", fn := fun _ => fun
  | [d] => { results := [.lit (.bool true)], args := [d] }
  | _ => none }
def fnCredSignalRow : OpenClaim := { program := "ytjokfjjdachpiaa", sum := "1164aff3ca5548a81f0c4b5143a484a43bdfc915ff7cc6f15e906e91abd70511", func := "loop.example/quarterdeck/laws.FnCredSignal", spec := "fnCredSignal", apart := false }
def FnCredSignalSaid : Prop := fnCredSignalRow.holds Try.pinned (OpenSpec.ofChange fnCredSignalSpec)

/-- ITS FALSE NEIGHBOUR: 'it returns false'. Refute it at one input. -/
def fnCredSignalWrong : ChangeSpec := { name := "fnCredSignal", fn := fun _ => fun
  | [d] => { results := [.lit (.bool false)], args := [d] }
  | _ => none }
def FnCredSignalWrongFalsely : Prop := fnCredSignalRow.holds Try.pinned (OpenSpec.ofChange fnCredSignalWrong)

/-- 'laws.FnExactCredOk': WHATEVER THE INPUT: true; the input reads as it did. -/
def fnExactCredOkSpec : ChangeSpec := { name := "fnExactCredOk", fn := fun _ => fun
  | [d] => { results := [.lit (.bool true)], args := [d] }
  | _ => none }
def fnExactCredOkRow : OpenClaim := { program := "ytjokfjjdachpiaa", sum := "1164aff3ca5548a81f0c4b5143a484a43bdfc915ff7cc6f15e906e91abd70511", func := "loop.example/quarterdeck/laws.FnExactCredOk", spec := "fnExactCredOk", apart := false }
def FnExactCredOkSaid : Prop := fnExactCredOkRow.holds Try.pinned (OpenSpec.ofChange fnExactCredOkSpec)

/-- ITS FALSE NEIGHBOUR: 'it returns false'. Refute it at one input. -/
def fnExactCredOkWrong : ChangeSpec := { name := "fnExactCredOk", fn := fun _ => fun
  | [d] => { results := [.lit (.bool false)], args := [d] }
  | _ => none }
def FnExactCredOkWrongFalsely : Prop := fnExactCredOkRow.holds Try.pinned (OpenSpec.ofChange fnExactCredOkWrong)

/-- 'laws.FnExactCredSignal': WHATEVER THE INPUT: true; the input reads as it did. -/
def fnExactCredSignalSpec : ChangeSpec := { name := "fnExactCredSignal", fn := fun _ => fun
  | [d1, d2] => { results := [.lit (.bool true)], args := [d1, d2] }
  | _ => none }
def fnExactCredSignalRow : OpenClaim := { program := "ytjokfjjdachpiaa", sum := "1164aff3ca5548a81f0c4b5143a484a43bdfc915ff7cc6f15e906e91abd70511", func := "loop.example/quarterdeck/laws.FnExactCredSignal", spec := "fnExactCredSignal", apart := false }
def FnExactCredSignalSaid : Prop := fnExactCredSignalRow.holds Try.pinned (OpenSpec.ofChange fnExactCredSignalSpec)

/-- ITS FALSE NEIGHBOUR: 'it returns false'. Refute it at one input. -/
def fnExactCredSignalWrong : ChangeSpec := { name := "fnExactCredSignal", fn := fun _ => fun
  | [d1, d2] => { results := [.lit (.bool false)], args := [d1, d2] }
  | _ => none }
def FnExactCredSignalWrongFalsely : Prop := fnExactCredSignalRow.holds Try.pinned (OpenSpec.ofChange fnExactCredSignalWrong)

/-- 'laws.FnModeFirst': WHATEVER THE INPUT: true; the input reads as it did. -/
def fnModeFirstSpec : ChangeSpec := { name := "fnModeFirst", fn := fun _ => fun
  | [d] => { results := [.lit (.bool true)], args := [d] }
  | _ => none }
def fnModeFirstRow : OpenClaim := { program := "ytjokfjjdachpiaa", sum := "1164aff3ca5548a81f0c4b5143a484a43bdfc915ff7cc6f15e906e91abd70511", func := "loop.example/quarterdeck/laws.FnModeFirst", spec := "fnModeFirst", apart := false }
def FnModeFirstSaid : Prop := fnModeFirstRow.holds Try.pinned (OpenSpec.ofChange fnModeFirstSpec)

/-- ITS FALSE NEIGHBOUR: 'it returns false'. Refute it at one input. -/
def fnModeFirstWrong : ChangeSpec := { name := "fnModeFirst", fn := fun _ => fun
  | [d] => { results := [.lit (.bool false)], args := [d] }
  | _ => none }
def FnModeFirstWrongFalsely : Prop := fnModeFirstRow.holds Try.pinned (OpenSpec.ofChange fnModeFirstWrong)

/-- 'laws.FnModeMay': WHATEVER THE INPUT: true; the input reads as it did. -/
def fnModeMaySpec : ChangeSpec := { name := "fnModeMay", fn := fun _ => fun
  | [d] => { results := [.lit (.bool true)], args := [d] }
  | _ => none }
def fnModeMayRow : OpenClaim := { program := "ytjokfjjdachpiaa", sum := "1164aff3ca5548a81f0c4b5143a484a43bdfc915ff7cc6f15e906e91abd70511", func := "loop.example/quarterdeck/laws.FnModeMay", spec := "fnModeMay", apart := false }
def FnModeMaySaid : Prop := fnModeMayRow.holds Try.pinned (OpenSpec.ofChange fnModeMaySpec)

/-- ITS FALSE NEIGHBOUR: 'it returns false'. Refute it at one input. -/
def fnModeMayWrong : ChangeSpec := { name := "fnModeMay", fn := fun _ => fun
  | [d] => { results := [.lit (.bool false)], args := [d] }
  | _ => none }
def FnModeMayWrongFalsely : Prop := fnModeMayRow.holds Try.pinned (OpenSpec.ofChange fnModeMayWrong)

/-- 'laws.FnExactModeMay': WHATEVER THE INPUT: true; the input reads as it did. -/
def fnExactModeMaySpec : ChangeSpec := { name := "fnExactModeMay", fn := fun _ => fun
  | [d1, d2, d3, d4, d5] => { results := [.lit (.bool true)], args := [d1, d2, d3, d4, d5] }
  | _ => none }
def fnExactModeMayRow : OpenClaim := { program := "ytjokfjjdachpiaa", sum := "1164aff3ca5548a81f0c4b5143a484a43bdfc915ff7cc6f15e906e91abd70511", func := "loop.example/quarterdeck/laws.FnExactModeMay", spec := "fnExactModeMay", apart := false }
def FnExactModeMaySaid : Prop := fnExactModeMayRow.holds Try.pinned (OpenSpec.ofChange fnExactModeMaySpec)

/-- ITS FALSE NEIGHBOUR: 'it returns false'. Refute it at one input. -/
def fnExactModeMayWrong : ChangeSpec := { name := "fnExactModeMay", fn := fun _ => fun
  | [d1, d2, d3, d4, d5] => { results := [.lit (.bool false)], args := [d1, d2, d3, d4, d5] }
  | _ => none }
def FnExactModeMayWrongFalsely : Prop := fnExactModeMayRow.holds Try.pinned (OpenSpec.ofChange fnExactModeMayWrong)

/- THE SECOND FORM. 'bulk': how many values and letters a reading holds, each counted each time it is reached (what is shared counts as often as it is met; a slice's spare places count too). A statement '..UptoSaid' is the law's where the arguments, and the package variables that the reading takes, are together of bulk at most 1048576: NARROWER than '..Said'. Prove '..Said' where nothing that the law and all that it calls make is longer than what came in: it says more and counts as full. Else prove '..UptoSaid'. A law counts once. -/
mutual
def uptoBulk {H : Type} : DataW H → Nat
  | .lit (.string bytes) => bytes.length + 1
  | .lit _ => 1
  | .nil => 1
  | .ptr d => uptoBulk d + 1
  | .slice elems spare => uptoBulkAll elems + uptoBulkAll spare + 1
  | .agg parts => uptoBulkAll parts + 1
  | .iface _ d => uptoBulk d + 1
  | .map entries => uptoBulkEntries entries + 1
  | .held _ => 1
def uptoBulkAll {H : Type} : List (DataW H) → Nat
  | [] => 0
  | d :: r => uptoBulk d + uptoBulkAll r
def uptoBulkEntries {H : Type} : List (Lit × DataW H) → Nat
  | [] => 0
  | x :: r => uptoBulkEntry x + uptoBulkEntries r
def uptoBulkEntry {H : Type} : Lit × DataW H → Nat
  | (.string bytes, d) => bytes.length + uptoBulk d + 1
  | (_, d) => uptoBulk d + 1
 end
def uptoSmall : (H : Type) → List (DataW H) → Bool := fun _ ds => decide (uptoBulkAll ds ≤ 1048576)
def OpenSpec.upto (s : _root_.Go.ChangeSpec) : _root_.Go.OpenSpec := { _root_.Go.OpenSpec.ofChange s with cond := some uptoSmall }

/-- 'laws.FnCredSignal', WHERE WHAT IT READS IS OF BULK AT MOST 1048576: true; the input reads as it did. -/
def fnCredSignalUptoRow : OpenClaim := { program := "ytjokfjjdachpiaa", sum := "1164aff3ca5548a81f0c4b5143a484a43bdfc915ff7cc6f15e906e91abd70511", func := "loop.example/quarterdeck/laws.FnCredSignal", spec := "fnCredSignal", apart := false, narrowed := true }
def FnCredSignalUptoSaid : Prop := fnCredSignalUptoRow.holds Try.pinned (OpenSpec.upto fnCredSignalSpec)

/-- 'laws.FnExactCredOk', WHERE WHAT IT READS IS OF BULK AT MOST 1048576: true; the input reads as it did. -/
def fnExactCredOkUptoRow : OpenClaim := { program := "ytjokfjjdachpiaa", sum := "1164aff3ca5548a81f0c4b5143a484a43bdfc915ff7cc6f15e906e91abd70511", func := "loop.example/quarterdeck/laws.FnExactCredOk", spec := "fnExactCredOk", apart := false, narrowed := true }
def FnExactCredOkUptoSaid : Prop := fnExactCredOkUptoRow.holds Try.pinned (OpenSpec.upto fnExactCredOkSpec)

/-- 'laws.FnExactCredSignal', WHERE WHAT IT READS IS OF BULK AT MOST 1048576: true; the input reads as it did. -/
def fnExactCredSignalUptoRow : OpenClaim := { program := "ytjokfjjdachpiaa", sum := "1164aff3ca5548a81f0c4b5143a484a43bdfc915ff7cc6f15e906e91abd70511", func := "loop.example/quarterdeck/laws.FnExactCredSignal", spec := "fnExactCredSignal", apart := false, narrowed := true }
def FnExactCredSignalUptoSaid : Prop := fnExactCredSignalUptoRow.holds Try.pinned (OpenSpec.upto fnExactCredSignalSpec)

/-- 'laws.FnModeFirst', WHERE WHAT IT READS IS OF BULK AT MOST 1048576: true; the input reads as it did. -/
def fnModeFirstUptoRow : OpenClaim := { program := "ytjokfjjdachpiaa", sum := "1164aff3ca5548a81f0c4b5143a484a43bdfc915ff7cc6f15e906e91abd70511", func := "loop.example/quarterdeck/laws.FnModeFirst", spec := "fnModeFirst", apart := false, narrowed := true }
def FnModeFirstUptoSaid : Prop := fnModeFirstUptoRow.holds Try.pinned (OpenSpec.upto fnModeFirstSpec)

/-- 'laws.FnModeMay', WHERE WHAT IT READS IS OF BULK AT MOST 1048576: true; the input reads as it did. -/
def fnModeMayUptoRow : OpenClaim := { program := "ytjokfjjdachpiaa", sum := "1164aff3ca5548a81f0c4b5143a484a43bdfc915ff7cc6f15e906e91abd70511", func := "loop.example/quarterdeck/laws.FnModeMay", spec := "fnModeMay", apart := false, narrowed := true }
def FnModeMayUptoSaid : Prop := fnModeMayUptoRow.holds Try.pinned (OpenSpec.upto fnModeMaySpec)

/-- 'laws.FnExactModeMay', WHERE WHAT IT READS IS OF BULK AT MOST 1048576: true; the input reads as it did. -/
def fnExactModeMayUptoRow : OpenClaim := { program := "ytjokfjjdachpiaa", sum := "1164aff3ca5548a81f0c4b5143a484a43bdfc915ff7cc6f15e906e91abd70511", func := "loop.example/quarterdeck/laws.FnExactModeMay", spec := "fnExactModeMay", apart := false, narrowed := true }
def FnExactModeMayUptoSaid : Prop := fnExactModeMayUptoRow.holds Try.pinned (OpenSpec.upto fnExactModeMaySpec)

end Rows
end Go.Proofs.Ytjokfjjdachpiaa
