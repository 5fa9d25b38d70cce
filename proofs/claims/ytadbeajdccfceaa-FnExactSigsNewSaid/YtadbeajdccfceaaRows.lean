/-
  No cell of these rows narrows 'for every input' (looked for: loops, veiled, ifaces, maps, wideKeys, modest, calm, conditions, laid).
  DERIVED. THE GIVEN ROWS OF THIS SEAT. 6 by the template 'for every input the law returns true; each argument reads behind the call as it read before'; 0 by the template 'total and deterministic' (their statements: YtadbeajdccfceaaTotals.lean).
  GIVEN WITH THE SEED: the statements are not yours to turn. If you find one false, say at which input.
  Laid BY PROGRAM, IN A SANDBOX (cutbox-rows.mjs): the forced cells as the released guide's own fill.sh prints them over the translation f37e9fb195602fec… (all of the seat's roots in one cut). By AI agents, Wed Nov 11 2026. No macro, syntax, notation, axiom, sorry.
-/
import Derived.Test.YtadbeajdccfceaaChecked
import GoSem.Claim
import GoSem.ClaimJoined
import GoSem.ClaimMapViews
import Derived.JoinedTies
import Derived.KernelRfl
namespace Go.Proofs.Ytadbeajdccfceaa
/- THE CELL 'sum', in the pinned program and in every row, IS THE sha256 OF THE DUMP (.gsa) THAT YtadbeajdccfceaaProg.lean LOADS. Nothing in Lean hashes anything: it is a label: what it is worth is what the hold of that sum in a sandbox is worth. -/
noncomputable def Try.pinned : Pinned := { name := "ytadbeajdccfceaa", sum := "f37e9fb195602fec8476614d1b626ba984ac493a7a10d518bd76a062ae608376", checked := Try.checked }
namespace Rows
def none {H : Type} : Left H := { results := [], args := [] }

/-- 'laws.FnPipeReady': WHATEVER THE INPUT: true; the input reads as it did. -/
def fnPipeReadySpec : ChangeSpec := { name := "fnPipeReady", fn := fun _ => fun
  | [d] => { results := [.lit (.bool true)], args := [d] }
  | _ => none }
def fnPipeReadyRow : OpenClaim := { program := "ytadbeajdccfceaa", sum := "f37e9fb195602fec8476614d1b626ba984ac493a7a10d518bd76a062ae608376", func := "loop.example/quarterdeck/laws.FnPipeReady", spec := "fnPipeReady", apart := false }
def FnPipeReadySaid : Prop := fnPipeReadyRow.holds Try.pinned (OpenSpec.ofChange fnPipeReadySpec)

/-- ITS FALSE NEIGHBOUR: 'it returns false'. Refute it at one input. -/
def fnPipeReadyWrong : ChangeSpec := { name := "fnPipeReady", fn := fun _ => fun
  | [d] => { results := [.lit (.bool false)], args := [d] }
  | _ => none }
def FnPipeReadyWrongFalsely : Prop := fnPipeReadyRow.holds Try.pinned (OpenSpec.ofChange fnPipeReadyWrong)

/-- 'laws.FnSigsOk': WHATEVER THE INPUT: true; the input reads as it did. -/
def fnSigsOkSpec : ChangeSpec := { name := "fnSigsOk", fn := fun _ => fun
  | [d] => { results := [.lit (.bool true)], args := [d] }
  | _ => none }
def fnSigsOkRow : OpenClaim := { program := "ytadbeajdccfceaa", sum := "f37e9fb195602fec8476614d1b626ba984ac493a7a10d518bd76a062ae608376", func := "loop.example/quarterdeck/laws.FnSigsOk", spec := "fnSigsOk", apart := false }
def FnSigsOkSaid : Prop := fnSigsOkRow.holds Try.pinned (OpenSpec.ofChange fnSigsOkSpec)

/-- ITS FALSE NEIGHBOUR: 'it returns false'. Refute it at one input. -/
def fnSigsOkWrong : ChangeSpec := { name := "fnSigsOk", fn := fun _ => fun
  | [d] => { results := [.lit (.bool false)], args := [d] }
  | _ => none }
def FnSigsOkWrongFalsely : Prop := fnSigsOkRow.holds Try.pinned (OpenSpec.ofChange fnSigsOkWrong)

/-- 'laws.FnExactSigsOk': WHATEVER THE INPUT: true; the input reads as it did. -/
def fnExactSigsOkSpec : ChangeSpec := { name := "fnExactSigsOk", fn := fun _ => fun
  | [d] => { results := [.lit (.bool true)], args := [d] }
  | _ => none }
def fnExactSigsOkRow : OpenClaim := { program := "ytadbeajdccfceaa", sum := "f37e9fb195602fec8476614d1b626ba984ac493a7a10d518bd76a062ae608376", func := "loop.example/quarterdeck/laws.FnExactSigsOk", spec := "fnExactSigsOk", apart := false }
def FnExactSigsOkSaid : Prop := fnExactSigsOkRow.holds Try.pinned (OpenSpec.ofChange fnExactSigsOkSpec)

/-- ITS FALSE NEIGHBOUR: 'it returns false'. Refute it at one input. -/
def fnExactSigsOkWrong : ChangeSpec := { name := "fnExactSigsOk", fn := fun _ => fun
  | [d] => { results := [.lit (.bool false)], args := [d] }
  | _ => none }
def FnExactSigsOkWrongFalsely : Prop := fnExactSigsOkRow.holds Try.pinned (OpenSpec.ofChange fnExactSigsOkWrong)

/-- 'laws.FnExactSigsNew': WHATEVER THE INPUT: true; the input reads as it did. -/
def fnExactSigsNewSpec : ChangeSpec := { name := "fnExactSigsNew", fn := fun _ => fun
  | [] => { results := [.lit (.bool true)], args := [] }
  | _ => none }
def fnExactSigsNewRow : OpenClaim := { program := "ytadbeajdccfceaa", sum := "f37e9fb195602fec8476614d1b626ba984ac493a7a10d518bd76a062ae608376", func := "loop.example/quarterdeck/laws.FnExactSigsNew", spec := "fnExactSigsNew", apart := false }
def FnExactSigsNewSaid : Prop := fnExactSigsNewRow.holds Try.pinned (OpenSpec.ofChange fnExactSigsNewSpec)

/-- ITS FALSE NEIGHBOUR: 'it returns false'. Refute it at one input. -/
def fnExactSigsNewWrong : ChangeSpec := { name := "fnExactSigsNew", fn := fun _ => fun
  | [] => { results := [.lit (.bool false)], args := [] }
  | _ => none }
def FnExactSigsNewWrongFalsely : Prop := fnExactSigsNewRow.holds Try.pinned (OpenSpec.ofChange fnExactSigsNewWrong)

/-- 'laws.FnModeText': WHATEVER THE INPUT: true; the input reads as it did. -/
def fnModeTextSpec : ChangeSpec := { name := "fnModeText", fn := fun _ => fun
  | [d] => { results := [.lit (.bool true)], args := [d] }
  | _ => none }
def fnModeTextRow : OpenClaim := { program := "ytadbeajdccfceaa", sum := "f37e9fb195602fec8476614d1b626ba984ac493a7a10d518bd76a062ae608376", func := "loop.example/quarterdeck/laws.FnModeText", spec := "fnModeText", apart := false }
def FnModeTextSaid : Prop := fnModeTextRow.holds Try.pinned (OpenSpec.ofChange fnModeTextSpec)

/-- ITS FALSE NEIGHBOUR: 'it returns false'. Refute it at one input. -/
def fnModeTextWrong : ChangeSpec := { name := "fnModeText", fn := fun _ => fun
  | [d] => { results := [.lit (.bool false)], args := [d] }
  | _ => none }
def FnModeTextWrongFalsely : Prop := fnModeTextRow.holds Try.pinned (OpenSpec.ofChange fnModeTextWrong)

/-- 'laws.FnModeRead': WHATEVER THE INPUT: true; the input reads as it did. -/
def fnModeReadSpec : ChangeSpec := { name := "fnModeRead", fn := fun _ => fun
  | [d] => { results := [.lit (.bool true)], args := [d] }
  | _ => none }
def fnModeReadRow : OpenClaim := { program := "ytadbeajdccfceaa", sum := "f37e9fb195602fec8476614d1b626ba984ac493a7a10d518bd76a062ae608376", func := "loop.example/quarterdeck/laws.FnModeRead", spec := "fnModeRead", apart := false }
def FnModeReadSaid : Prop := fnModeReadRow.holds Try.pinned (OpenSpec.ofChange fnModeReadSpec)

/-- ITS FALSE NEIGHBOUR: 'it returns false'. Refute it at one input. -/
def fnModeReadWrong : ChangeSpec := { name := "fnModeRead", fn := fun _ => fun
  | [d] => { results := [.lit (.bool false)], args := [d] }
  | _ => none }
def FnModeReadWrongFalsely : Prop := fnModeReadRow.holds Try.pinned (OpenSpec.ofChange fnModeReadWrong)

/- THE SECOND FORM. 'bulk': how many values and letters a reading holds, each counted each time it is reached (what is shared counts as often as it is met; a slice's spare places count too). A statement '..UptoSaid' is the law's where the arguments, and the package variables that the reading takes, are together of bulk at most 1048576: NARROWER than '..Said'. Prove '..Said' where nothing that the law and all that it calls make is longer than what came in: it says more and counts as full. Else prove '..UptoSaid'. A law counts once. -/
mutual
def uptoBulk {H : Type} : DataW H → Nat
  | .lit (.string bytes) => bytes.length + 1
  | .lit _ => 1
  | .nil => 1
  | .ptr d => uptoBulk d + 1
  | .slice elems spare => uptoBulkAll elems + uptoBulkAll spare + 1
  | .agg parts => uptoBulkAll parts + 1
  | .iface _ d => uptoBulk d + 1
  | .map entries => uptoBulkEntries entries + 1
  | .held _ => 1
def uptoBulkAll {H : Type} : List (DataW H) → Nat
  | [] => 0
  | d :: r => uptoBulk d + uptoBulkAll r
def uptoBulkEntries {H : Type} : List (Lit × DataW H) → Nat
  | [] => 0
  | x :: r => uptoBulkEntry x + uptoBulkEntries r
def uptoBulkEntry {H : Type} : Lit × DataW H → Nat
  | (.string bytes, d) => bytes.length + uptoBulk d + 1
  | (_, d) => uptoBulk d + 1
 end
def uptoSmall : (H : Type) → List (DataW H) → Bool := fun _ ds => decide (uptoBulkAll ds ≤ 1048576)
def OpenSpec.upto (s : _root_.Go.ChangeSpec) : _root_.Go.OpenSpec := { _root_.Go.OpenSpec.ofChange s with cond := some uptoSmall }

/-- 'laws.FnPipeReady', WHERE WHAT IT READS IS OF BULK AT MOST 1048576: true; the input reads as it did. -/
def fnPipeReadyUptoRow : OpenClaim := { program := "ytadbeajdccfceaa", sum := "f37e9fb195602fec8476614d1b626ba984ac493a7a10d518bd76a062ae608376", func := "loop.example/quarterdeck/laws.FnPipeReady", spec := "fnPipeReady", apart := false, narrowed := true }
def FnPipeReadyUptoSaid : Prop := fnPipeReadyUptoRow.holds Try.pinned (OpenSpec.upto fnPipeReadySpec)

/-- 'laws.FnSigsOk', WHERE WHAT IT READS IS OF BULK AT MOST 1048576: true; the input reads as it did. -/
def fnSigsOkUptoRow : OpenClaim := { program := "ytadbeajdccfceaa", sum := "f37e9fb195602fec8476614d1b626ba984ac493a7a10d518bd76a062ae608376", func := "loop.example/quarterdeck/laws.FnSigsOk", spec := "fnSigsOk", apart := false, narrowed := true }
def FnSigsOkUptoSaid : Prop := fnSigsOkUptoRow.holds Try.pinned (OpenSpec.upto fnSigsOkSpec)

/-- 'laws.FnExactSigsOk', WHERE WHAT IT READS IS OF BULK AT MOST 1048576: true; the input reads as it did. -/
def fnExactSigsOkUptoRow : OpenClaim := { program := "ytadbeajdccfceaa", sum := "f37e9fb195602fec8476614d1b626ba984ac493a7a10d518bd76a062ae608376", func := "loop.example/quarterdeck/laws.FnExactSigsOk", spec := "fnExactSigsOk", apart := false, narrowed := true }
def FnExactSigsOkUptoSaid : Prop := fnExactSigsOkUptoRow.holds Try.pinned (OpenSpec.upto fnExactSigsOkSpec)

/-- 'laws.FnExactSigsNew', WHERE WHAT IT READS IS OF BULK AT MOST 1048576: true; the input reads as it did. -/
def fnExactSigsNewUptoRow : OpenClaim := { program := "ytadbeajdccfceaa", sum := "f37e9fb195602fec8476614d1b626ba984ac493a7a10d518bd76a062ae608376", func := "loop.example/quarterdeck/laws.FnExactSigsNew", spec := "fnExactSigsNew", apart := false, narrowed := true }
def FnExactSigsNewUptoSaid : Prop := fnExactSigsNewUptoRow.holds Try.pinned (OpenSpec.upto fnExactSigsNewSpec)

/-- 'laws.FnModeText', WHERE WHAT IT READS IS OF BULK AT MOST 1048576: true; the input reads as it did. -/
def fnModeTextUptoRow : OpenClaim := { program := "ytadbeajdccfceaa", sum := "f37e9fb195602fec8476614d1b626ba984ac493a7a10d518bd76a062ae608376", func := "loop.example/quarterdeck/laws.FnModeText", spec := "fnModeText", apart := false, narrowed := true }
def FnModeTextUptoSaid : Prop := fnModeTextUptoRow.holds Try.pinned (OpenSpec.upto fnModeTextSpec)

/-- 'laws.FnModeRead', WHERE WHAT IT READS IS OF BULK AT MOST 1048576: true; the input reads as it did. -/
def fnModeReadUptoRow : OpenClaim := { program := "ytadbeajdccfceaa", sum := "f37e9fb195602fec8476614d1b626ba984ac493a7a10d518bd76a062ae608376", func := "loop.example/quarterdeck/laws.FnModeRead", spec := "fnModeRead", apart := false, narrowed := true }
def FnModeReadUptoSaid : Prop := fnModeReadUptoRow.holds Try.pinned (OpenSpec.upto fnModeReadSpec)

end Rows
end Go.Proofs.Ytadbeajdccfceaa
