/-
  No cell of these rows narrows 'for every input' (looked for: loops, veiled, ifaces, maps, wideKeys, modest, calm, conditions, laid).
  DERIVED. THE GIVEN ROWS OF THIS SEAT. 6 by the template 'for every input the law returns true; each argument reads behind the call as it read before'; 0 by the template 'total and deterministic' (their statements: YtpholngikeekdaaTotals.lean).
  GIVEN WITH THE SEED: the statements are not yours to turn. If you find one false, say at which input.
  Laid BY PROGRAM, IN A SANDBOX (cutbox-rows.mjs): the forced cells as the released guide's own fill.sh prints them over the translation ccc964708301269d… (all of the seat's roots in one cut). By AI agents, Wed Nov 11 2026. No macro, syntax, notation, axiom, sorry.
-/
import Derived.Test.YtpholngikeekdaaChecked
import GoSem.Claim
import GoSem.ClaimJoined
import GoSem.ClaimMapViews
import Derived.JoinedTies
import Derived.KernelRfl
namespace Go.Proofs.Ytpholngikeekdaa
/- THE CELL 'sum', in the pinned program and in every row, IS THE sha256 OF THE DUMP (.gsa) THAT YtpholngikeekdaaProg.lean LOADS. Nothing in Lean hashes anything: it is a label: what it is worth is what the hold of that sum in a sandbox is worth. -/
noncomputable def Try.pinned : Pinned := { name := "ytpholngikeekdaa", sum := "ccc964708301269d39697d685685c68173da84ffd4217f5006e13415c6cb93a5", checked := Try.checked }
namespace Rows
def none {H : Type} : Left H := { results := [], args := [] }

/-- 'laws.FnExactConstants': WHATEVER THE INPUT: true; the input reads as it did. -/
def fnExactConstantsSpec : ChangeSpec := { name := "fnExactConstants", fn := fun _ => fun
  | [] => { results := [.lit (.bool true)], args := [] }
  | _ => none }
def fnExactConstantsRow : OpenClaim := { program := "ytpholngikeekdaa", sum := "ccc964708301269d39697d685685c68173da84ffd4217f5006e13415c6cb93a5", func := "loop.example/quarterdeck/laws.FnExactConstants", spec := "fnExactConstants", apart := false }
def FnExactConstantsSaid : Prop := fnExactConstantsRow.holds Try.pinned (OpenSpec.ofChange fnExactConstantsSpec)

/-- ITS FALSE NEIGHBOUR: 'it returns false'. Refute it at one input. -/
def fnExactConstantsWrong : ChangeSpec := { name := "fnExactConstants", fn := fun _ => fun
  | [] => { results := [.lit (.bool false)], args := [] }
  | _ => none }
def FnExactConstantsWrongFalsely : Prop := fnExactConstantsRow.holds Try.pinned (OpenSpec.ofChange fnExactConstantsWrong)

/-- 'laws.FnExactAreaOk': WHATEVER THE INPUT: true; the input reads as it did. -/
def fnExactAreaOkSpec : ChangeSpec := { name := "fnExactAreaOk", fn := fun _ => fun
  | [d] => { results := [.lit (.bool true)], args := [d] }
  | _ => none }
def fnExactAreaOkRow : OpenClaim := { program := "ytpholngikeekdaa", sum := "ccc964708301269d39697d685685c68173da84ffd4217f5006e13415c6cb93a5", func := "loop.example/quarterdeck/laws.FnExactAreaOk", spec := "fnExactAreaOk", apart := false }
def FnExactAreaOkSaid : Prop := fnExactAreaOkRow.holds Try.pinned (OpenSpec.ofChange fnExactAreaOkSpec)

/-- ITS FALSE NEIGHBOUR: 'it returns false'. Refute it at one input. -/
def fnExactAreaOkWrong : ChangeSpec := { name := "fnExactAreaOk", fn := fun _ => fun
  | [d] => { results := [.lit (.bool false)], args := [d] }
  | _ => none }
def FnExactAreaOkWrongFalsely : Prop := fnExactAreaOkRow.holds Try.pinned (OpenSpec.ofChange fnExactAreaOkWrong)

/-- 'laws.FnExactPipeOk': WHATEVER THE INPUT: true; the input reads as it did. -/
def fnExactPipeOkSpec : ChangeSpec := { name := "fnExactPipeOk", fn := fun _ => fun
  | [d] => { results := [.lit (.bool true)], args := [d] }
  | _ => none }
def fnExactPipeOkRow : OpenClaim := { program := "ytpholngikeekdaa", sum := "ccc964708301269d39697d685685c68173da84ffd4217f5006e13415c6cb93a5", func := "loop.example/quarterdeck/laws.FnExactPipeOk", spec := "fnExactPipeOk", apart := false }
def FnExactPipeOkSaid : Prop := fnExactPipeOkRow.holds Try.pinned (OpenSpec.ofChange fnExactPipeOkSpec)

/-- ITS FALSE NEIGHBOUR: 'it returns false'. Refute it at one input. -/
def fnExactPipeOkWrong : ChangeSpec := { name := "fnExactPipeOk", fn := fun _ => fun
  | [d] => { results := [.lit (.bool false)], args := [d] }
  | _ => none }
def FnExactPipeOkWrongFalsely : Prop := fnExactPipeOkRow.holds Try.pinned (OpenSpec.ofChange fnExactPipeOkWrong)

/-- 'laws.FnExactModeText': WHATEVER THE INPUT: true; the input reads as it did. -/
def fnExactModeTextSpec : ChangeSpec := { name := "fnExactModeText", fn := fun _ => fun
  | [d] => { results := [.lit (.bool true)], args := [d] }
  | _ => none }
def fnExactModeTextRow : OpenClaim := { program := "ytpholngikeekdaa", sum := "ccc964708301269d39697d685685c68173da84ffd4217f5006e13415c6cb93a5", func := "loop.example/quarterdeck/laws.FnExactModeText", spec := "fnExactModeText", apart := false }
def FnExactModeTextSaid : Prop := fnExactModeTextRow.holds Try.pinned (OpenSpec.ofChange fnExactModeTextSpec)

/-- ITS FALSE NEIGHBOUR: 'it returns false'. Refute it at one input. -/
def fnExactModeTextWrong : ChangeSpec := { name := "fnExactModeText", fn := fun _ => fun
  | [d] => { results := [.lit (.bool false)], args := [d] }
  | _ => none }
def FnExactModeTextWrongFalsely : Prop := fnExactModeTextRow.holds Try.pinned (OpenSpec.ofChange fnExactModeTextWrong)

/-- 'laws.FnExactPipeReady': WHATEVER THE INPUT: true; the input reads as it did. -/
def fnExactPipeReadySpec : ChangeSpec := { name := "fnExactPipeReady", fn := fun _ => fun
  | [d] => { results := [.lit (.bool true)], args := [d] }
  | _ => none }
def fnExactPipeReadyRow : OpenClaim := { program := "ytpholngikeekdaa", sum := "ccc964708301269d39697d685685c68173da84ffd4217f5006e13415c6cb93a5", func := "loop.example/quarterdeck/laws.FnExactPipeReady", spec := "fnExactPipeReady", apart := false }
def FnExactPipeReadySaid : Prop := fnExactPipeReadyRow.holds Try.pinned (OpenSpec.ofChange fnExactPipeReadySpec)

/-- ITS FALSE NEIGHBOUR: 'it returns false'. Refute it at one input. -/
def fnExactPipeReadyWrong : ChangeSpec := { name := "fnExactPipeReady", fn := fun _ => fun
  | [d] => { results := [.lit (.bool false)], args := [d] }
  | _ => none }
def FnExactPipeReadyWrongFalsely : Prop := fnExactPipeReadyRow.holds Try.pinned (OpenSpec.ofChange fnExactPipeReadyWrong)

/-- 'laws.FnExactModeRead': WHATEVER THE INPUT: true; the input reads as it did. -/
def fnExactModeReadSpec : ChangeSpec := { name := "fnExactModeRead", fn := fun _ => fun
  | [d] => { results := [.lit (.bool true)], args := [d] }
  | _ => none }
def fnExactModeReadRow : OpenClaim := { program := "ytpholngikeekdaa", sum := "ccc964708301269d39697d685685c68173da84ffd4217f5006e13415c6cb93a5", func := "loop.example/quarterdeck/laws.FnExactModeRead", spec := "fnExactModeRead", apart := false }
def FnExactModeReadSaid : Prop := fnExactModeReadRow.holds Try.pinned (OpenSpec.ofChange fnExactModeReadSpec)

/-- ITS FALSE NEIGHBOUR: 'it returns false'. Refute it at one input. -/
def fnExactModeReadWrong : ChangeSpec := { name := "fnExactModeRead", fn := fun _ => fun
  | [d] => { results := [.lit (.bool false)], args := [d] }
  | _ => none }
def FnExactModeReadWrongFalsely : Prop := fnExactModeReadRow.holds Try.pinned (OpenSpec.ofChange fnExactModeReadWrong)

/- THE SECOND FORM. 'bulk': how many values and letters a reading holds, each counted each time it is reached (what is shared counts as often as it is met; a slice's spare places count too). A statement '..UptoSaid' is the law's where the arguments, and the package variables that the reading takes, are together of bulk at most 1048576: NARROWER than '..Said'. Prove '..Said' where nothing that the law and all that it calls make is longer than what came in: it says more and counts as full. Else prove '..UptoSaid'. A law counts once. -/
mutual
def uptoBulk {H : Type} : DataW H → Nat
  | .lit (.string bytes) => bytes.length + 1
  | .lit _ => 1
  | .nil => 1
  | .ptr d => uptoBulk d + 1
  | .slice elems spare => uptoBulkAll elems + uptoBulkAll spare + 1
  | .agg parts => uptoBulkAll parts + 1
  | .iface _ d => uptoBulk d + 1
  | .map entries => uptoBulkEntries entries + 1
  | .held _ => 1
def uptoBulkAll {H : Type} : List (DataW H) → Nat
  | [] => 0
  | d :: r => uptoBulk d + uptoBulkAll r
def uptoBulkEntries {H : Type} : List (Lit × DataW H) → Nat
  | [] => 0
  | x :: r => uptoBulkEntry x + uptoBulkEntries r
def uptoBulkEntry {H : Type} : Lit × DataW H → Nat
  | (.string bytes, d) => bytes.length + uptoBulk d + 1
  | (_, d) => uptoBulk d + 1
 end
def uptoSmall : (H : Type) → List (DataW H) → Bool := fun _ ds => decide (uptoBulkAll ds ≤ 1048576)
def OpenSpec.upto (s : _root_.Go.ChangeSpec) : _root_.Go.OpenSpec := { _root_.Go.OpenSpec.ofChange s with cond := some uptoSmall }

/-- 'laws.FnExactConstants', WHERE WHAT IT READS IS OF BULK AT MOST 1048576: true; the input reads as it did. -/
def fnExactConstantsUptoRow : OpenClaim := { program := "ytpholngikeekdaa", sum := "ccc964708301269d39697d685685c68173da84ffd4217f5006e13415c6cb93a5", func := "loop.example/quarterdeck/laws.FnExactConstants", spec := "fnExactConstants", apart := false, narrowed := true }
def FnExactConstantsUptoSaid : Prop := fnExactConstantsUptoRow.holds Try.pinned (OpenSpec.upto fnExactConstantsSpec)

/-- 'laws.FnExactAreaOk', WHERE WHAT IT READS IS OF BULK AT MOST 1048576: true; the input reads as it did. -/
def fnExactAreaOkUptoRow : OpenClaim := { program := "ytpholngikeekdaa", sum := "ccc964708301269d39697d685685c68173da84ffd4217f5006e13415c6cb93a5", func := "loop.example/quarterdeck/laws.FnExactAreaOk", spec := "fnExactAreaOk", apart := false, narrowed := true }
def FnExactAreaOkUptoSaid : Prop := fnExactAreaOkUptoRow.holds Try.pinned (OpenSpec.upto fnExactAreaOkSpec)

/-- 'laws.FnExactPipeOk', WHERE WHAT IT READS IS OF BULK AT MOST 1048576: true; the input reads as it did. -/
def fnExactPipeOkUptoRow : OpenClaim := { program := "ytpholngikeekdaa", sum := "ccc964708301269d39697d685685c68173da84ffd4217f5006e13415c6cb93a5", func := "loop.example/quarterdeck/laws.FnExactPipeOk", spec := "fnExactPipeOk", apart := false, narrowed := true }
def FnExactPipeOkUptoSaid : Prop := fnExactPipeOkUptoRow.holds Try.pinned (OpenSpec.upto fnExactPipeOkSpec)

/-- 'laws.FnExactModeText', WHERE WHAT IT READS IS OF BULK AT MOST 1048576: true; the input reads as it did. -/
def fnExactModeTextUptoRow : OpenClaim := { program := "ytpholngikeekdaa", sum := "ccc964708301269d39697d685685c68173da84ffd4217f5006e13415c6cb93a5", func := "loop.example/quarterdeck/laws.FnExactModeText", spec := "fnExactModeText", apart := false, narrowed := true }
def FnExactModeTextUptoSaid : Prop := fnExactModeTextUptoRow.holds Try.pinned (OpenSpec.upto fnExactModeTextSpec)

/-- 'laws.FnExactPipeReady', WHERE WHAT IT READS IS OF BULK AT MOST 1048576: true; the input reads as it did. -/
def fnExactPipeReadyUptoRow : OpenClaim := { program := "ytpholngikeekdaa", sum := "ccc964708301269d39697d685685c68173da84ffd4217f5006e13415c6cb93a5", func := "loop.example/quarterdeck/laws.FnExactPipeReady", spec := "fnExactPipeReady", apart := false, narrowed := true }
def FnExactPipeReadyUptoSaid : Prop := fnExactPipeReadyUptoRow.holds Try.pinned (OpenSpec.upto fnExactPipeReadySpec)

/-- 'laws.FnExactModeRead', WHERE WHAT IT READS IS OF BULK AT MOST 1048576: true; the input reads as it did. -/
def fnExactModeReadUptoRow : OpenClaim := { program := "ytpholngikeekdaa", sum := "ccc964708301269d39697d685685c68173da84ffd4217f5006e13415c6cb93a5", func := "loop.example/quarterdeck/laws.FnExactModeRead", spec := "fnExactModeRead", apart := false, narrowed := true }
def FnExactModeReadUptoSaid : Prop := fnExactModeReadUptoRow.holds Try.pinned (OpenSpec.upto fnExactModeReadSpec)

end Rows
end Go.Proofs.Ytpholngikeekdaa
