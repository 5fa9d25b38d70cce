/-
  No cell of these rows narrows 'for every input' (looked for: loops, veiled, ifaces, maps, wideKeys, modest, calm, conditions, laid).
  DERIVED. THE GIVEN ROWS OF THIS SEAT. 5 by the template 'for every input the law returns true; each argument reads behind the call as it read before'; 0 by the template 'total and deterministic' (their statements: YtecniihieninjaaTotals.lean).
  GIVEN WITH THE SEED: the statements are not yours to turn. If you find one false, say at which input.
  Laid BY PROGRAM, IN A SANDBOX (cutbox-rows.mjs): the forced cells as the released guide's own fill.sh prints them over the translation db90fbb4a85b673f… (all of the seat's roots in one cut). By AI agents, Wed Nov 11 2026. No macro, syntax, notation, axiom, sorry.
-/
import Derived.Test.YtecniihieninjaaChecked
import GoSem.Claim
import GoSem.ClaimJoined
import GoSem.ClaimMapViews
import Derived.JoinedTies
import Derived.KernelRfl
namespace Go.Proofs.Ytecniihieninjaa
/- THE CELL 'sum', in the pinned program and in every row, IS THE sha256 OF THE DUMP (.gsa) THAT YtecniihieninjaaProg.lean LOADS. Nothing in Lean hashes anything: it is a label: what it is worth is what the hold of that sum in a sandbox is worth. -/
noncomputable def Try.pinned : Pinned := { name := "ytecniihieninjaa", sum := "db90fbb4a85b673ff4c61a1a88d8c130ef0a35e661f883f8a63ee94f4ce5bc8b", checked := Try.checked }
namespace Rows
def none {H : Type} : Left H := { results := [], args := [] }

/-- 'laws.FnLockNew': WHATEVER THE INPUT: true; the input reads as it did. -/
def fnLockNewSpec : ChangeSpec := { name := "fnLockNew", fn := fun _ => fun
  | [d] => { results := [.lit (.bool true)], args := [d] }
  | _ => none }
def fnLockNewRow : OpenClaim := { program := "ytecniihieninjaa", sum := "db90fbb4a85b673ff4c61a1a88d8c130ef0a35e661f883f8a63ee94f4ce5bc8b", func := "loop.example/quarterdeck/laws.FnLockNew", spec := "fnLockNew", apart := false }
def FnLockNewSaid : Prop := fnLockNewRow.holds Try.pinned (OpenSpec.ofChange fnLockNewSpec)

/-- ITS FALSE NEIGHBOUR: 'it returns false'. Refute it at one input. -/
def fnLockNewWrong : ChangeSpec := { name := "fnLockNew", fn := fun _ => fun
  | [d] => { results := [.lit (.bool false)], args := [d] }
  | _ => none }
def FnLockNewWrongFalsely : Prop := fnLockNewRow.holds Try.pinned (OpenSpec.ofChange fnLockNewWrong)

/-- 'laws.FnExactLockNew': WHATEVER THE INPUT: true; the input reads as it did. -/
def fnExactLockNewSpec : ChangeSpec := { name := "fnExactLockNew", fn := fun _ => fun
  | [d1, d2] => { results := [.lit (.bool true)], args := [d1, d2] }
  | _ => none }
def fnExactLockNewRow : OpenClaim := { program := "ytecniihieninjaa", sum := "db90fbb4a85b673ff4c61a1a88d8c130ef0a35e661f883f8a63ee94f4ce5bc8b", func := "loop.example/quarterdeck/laws.FnExactLockNew", spec := "fnExactLockNew", apart := false }
def FnExactLockNewSaid : Prop := fnExactLockNewRow.holds Try.pinned (OpenSpec.ofChange fnExactLockNewSpec)

/-- ITS FALSE NEIGHBOUR: 'it returns false'. Refute it at one input. -/
def fnExactLockNewWrong : ChangeSpec := { name := "fnExactLockNew", fn := fun _ => fun
  | [d1, d2] => { results := [.lit (.bool false)], args := [d1, d2] }
  | _ => none }
def FnExactLockNewWrongFalsely : Prop := fnExactLockNewRow.holds Try.pinned (OpenSpec.ofChange fnExactLockNewWrong)

/-- 'laws.FnExactLockOk': WHATEVER THE INPUT: true; the input reads as it did. -/
def fnExactLockOkSpec : ChangeSpec := { name := "fnExactLockOk", fn := fun _ => fun
  | [d] => { results := [.lit (.bool true)], args := [d] }
  | _ => none }
def fnExactLockOkRow : OpenClaim := { program := "ytecniihieninjaa", sum := "db90fbb4a85b673ff4c61a1a88d8c130ef0a35e661f883f8a63ee94f4ce5bc8b", func := "loop.example/quarterdeck/laws.FnExactLockOk", spec := "fnExactLockOk", apart := false }
def FnExactLockOkSaid : Prop := fnExactLockOkRow.holds Try.pinned (OpenSpec.ofChange fnExactLockOkSpec)

/-- ITS FALSE NEIGHBOUR: 'it returns false'. Refute it at one input. -/
def fnExactLockOkWrong : ChangeSpec := { name := "fnExactLockOk", fn := fun _ => fun
  | [d] => { results := [.lit (.bool false)], args := [d] }
  | _ => none }
def FnExactLockOkWrongFalsely : Prop := fnExactLockOkRow.holds Try.pinned (OpenSpec.ofChange fnExactLockOkWrong)

/-- 'laws.FnExactBytesSame': WHATEVER THE INPUT: true; the input reads as it did. -/
def fnExactBytesSameSpec : ChangeSpec := { name := "fnExactBytesSame", fn := fun _ => fun
  | [d1, d2] => { results := [.lit (.bool true)], args := [d1, d2] }
  | _ => none }
def fnExactBytesSameRow : OpenClaim := { program := "ytecniihieninjaa", sum := "db90fbb4a85b673ff4c61a1a88d8c130ef0a35e661f883f8a63ee94f4ce5bc8b", func := "loop.example/quarterdeck/laws.FnExactBytesSame", spec := "fnExactBytesSame", unfollowed := true, recurses := true, apart := false }
def FnExactBytesSameSaid : Prop := fnExactBytesSameRow.holds Try.pinned (OpenSpec.ofChange fnExactBytesSameSpec)

/-- ITS FALSE NEIGHBOUR: 'it returns false'. Refute it at one input. -/
def fnExactBytesSameWrong : ChangeSpec := { name := "fnExactBytesSame", fn := fun _ => fun
  | [d1, d2] => { results := [.lit (.bool false)], args := [d1, d2] }
  | _ => none }
def FnExactBytesSameWrongFalsely : Prop := fnExactBytesSameRow.holds Try.pinned (OpenSpec.ofChange fnExactBytesSameWrong)

/-- 'laws.FnBytesSame': WHATEVER THE INPUT: true; the input reads as it did. -/
def fnBytesSameSpec : ChangeSpec := { name := "fnBytesSame", fn := fun _ => fun
  | [d] => { results := [.lit (.bool true)], args := [d] }
  | _ => none }
def fnBytesSameRow : OpenClaim := { program := "ytecniihieninjaa", sum := "db90fbb4a85b673ff4c61a1a88d8c130ef0a35e661f883f8a63ee94f4ce5bc8b", func := "loop.example/quarterdeck/laws.FnBytesSame", spec := "fnBytesSame", unfollowed := true, recurses := true, apart := false }
def FnBytesSameSaid : Prop := fnBytesSameRow.holds Try.pinned (OpenSpec.ofChange fnBytesSameSpec)

/-- ITS FALSE NEIGHBOUR: 'it returns false'. Refute it at one input. -/
def fnBytesSameWrong : ChangeSpec := { name := "fnBytesSame", fn := fun _ => fun
  | [d] => { results := [.lit (.bool false)], args := [d] }
  | _ => none }
def FnBytesSameWrongFalsely : Prop := fnBytesSameRow.holds Try.pinned (OpenSpec.ofChange fnBytesSameWrong)

/- THE SECOND FORM. 'bulk': how many values and letters a reading holds, each counted each time it is reached (what is shared counts as often as it is met; a slice's spare places count too). A statement '..UptoSaid' is the law's where the arguments, and the package variables that the reading takes, are together of bulk at most 1048576: NARROWER than '..Said'. Prove '..Said' where nothing that the law and all that it calls make is longer than what came in: it says more and counts as full. Else prove '..UptoSaid'. A law counts once. -/
mutual
def uptoBulk {H : Type} : DataW H → Nat
  | .lit (.string bytes) => bytes.length + 1
  | .lit _ => 1
  | .nil => 1
  | .ptr d => uptoBulk d + 1
  | .slice elems spare => uptoBulkAll elems + uptoBulkAll spare + 1
  | .agg parts => uptoBulkAll parts + 1
  | .iface _ d => uptoBulk d + 1
  | .map entries => uptoBulkEntries entries + 1
  | .held _ => 1
def uptoBulkAll {H : Type} : List (DataW H) → Nat
  | [] => 0
  | d :: r => uptoBulk d + uptoBulkAll r
def uptoBulkEntries {H : Type} : List (Lit × DataW H) → Nat
  | [] => 0
  | x :: r => uptoBulkEntry x + uptoBulkEntries r
def uptoBulkEntry {H : Type} : Lit × DataW H → Nat
  | (.string bytes, d) => bytes.length + uptoBulk d + 1
  | (_, d) => uptoBulk d + 1
 end
def uptoSmall : (H : Type) → List (DataW H) → Bool := fun _ ds => decide (uptoBulkAll ds ≤ 1048576)
def OpenSpec.upto (s : _root_.Go.ChangeSpec) : _root_.Go.OpenSpec := { _root_.Go.OpenSpec.ofChange s with cond := some uptoSmall }

/-- 'laws.FnLockNew', WHERE WHAT IT READS IS OF BULK AT MOST 1048576: true; the input reads as it did. -/
def fnLockNewUptoRow : OpenClaim := { program := "ytecniihieninjaa", sum := "db90fbb4a85b673ff4c61a1a88d8c130ef0a35e661f883f8a63ee94f4ce5bc8b", func := "loop.example/quarterdeck/laws.FnLockNew", spec := "fnLockNew", apart := false, narrowed := true }
def FnLockNewUptoSaid : Prop := fnLockNewUptoRow.holds Try.pinned (OpenSpec.upto fnLockNewSpec)

/-- 'laws.FnExactLockNew', WHERE WHAT IT READS IS OF BULK AT MOST 1048576: true; the input reads as it did. -/
def fnExactLockNewUptoRow : OpenClaim := { program := "ytecniihieninjaa", sum := "db90fbb4a85b673ff4c61a1a88d8c130ef0a35e661f883f8a63ee94f4ce5bc8b", func := "loop.example/quarterdeck/laws.FnExactLockNew", spec := "fnExactLockNew", apart := false, narrowed := true }
def FnExactLockNewUptoSaid : Prop := fnExactLockNewUptoRow.holds Try.pinned (OpenSpec.upto fnExactLockNewSpec)

/-- 'laws.FnExactLockOk', WHERE WHAT IT READS IS OF BULK AT MOST 1048576: true; the input reads as it did. -/
def fnExactLockOkUptoRow : OpenClaim := { program := "ytecniihieninjaa", sum := "db90fbb4a85b673ff4c61a1a88d8c130ef0a35e661f883f8a63ee94f4ce5bc8b", func := "loop.example/quarterdeck/laws.FnExactLockOk", spec := "fnExactLockOk", apart := false, narrowed := true }
def FnExactLockOkUptoSaid : Prop := fnExactLockOkUptoRow.holds Try.pinned (OpenSpec.upto fnExactLockOkSpec)

/-- 'laws.FnExactBytesSame', WHERE WHAT IT READS IS OF BULK AT MOST 1048576: true; the input reads as it did. -/
def fnExactBytesSameUptoRow : OpenClaim := { program := "ytecniihieninjaa", sum := "db90fbb4a85b673ff4c61a1a88d8c130ef0a35e661f883f8a63ee94f4ce5bc8b", func := "loop.example/quarterdeck/laws.FnExactBytesSame", spec := "fnExactBytesSame", unfollowed := true, recurses := true, apart := false, narrowed := true }
def FnExactBytesSameUptoSaid : Prop := fnExactBytesSameUptoRow.holds Try.pinned (OpenSpec.upto fnExactBytesSameSpec)

/-- 'laws.FnBytesSame', WHERE WHAT IT READS IS OF BULK AT MOST 1048576: true; the input reads as it did. -/
def fnBytesSameUptoRow : OpenClaim := { program := "ytecniihieninjaa", sum := "db90fbb4a85b673ff4c61a1a88d8c130ef0a35e661f883f8a63ee94f4ce5bc8b", func := "loop.example/quarterdeck/laws.FnBytesSame", spec := "fnBytesSame", unfollowed := true, recurses := true, apart := false, narrowed := true }
def FnBytesSameUptoSaid : Prop := fnBytesSameUptoRow.holds Try.pinned (OpenSpec.upto fnBytesSameSpec)

end Rows
end Go.Proofs.Ytecniihieninjaa
