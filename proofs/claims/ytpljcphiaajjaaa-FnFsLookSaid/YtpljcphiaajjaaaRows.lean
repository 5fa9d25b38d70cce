/-
  No cell of these rows narrows 'for every input' (looked for: loops, veiled, ifaces, maps, wideKeys, modest, calm, conditions, laid).
  DERIVED. THE GIVEN ROWS OF THIS SEAT. 7 by the template 'for every input the law returns true; each argument reads behind the call as it read before'; 0 by the template 'total and deterministic' (their statements: YtpljcphiaajjaaaTotals.lean).
  GIVEN WITH THE SEED: the statements are not yours to turn. If you find one false, say at which input.
  Laid BY PROGRAM, IN A SANDBOX (cutbox-rows.mjs): the forced cells as the released guide's own fill.sh prints them over the translation 31e5f82a82623684… (all of the seat's roots in one cut). By AI agents, Wed Nov 11 2026. No macro, syntax, notation, axiom, sorry.
-/
import Derived.Test.YtpljcphiaajjaaaChecked
import GoSem.Claim
import GoSem.ClaimJoined
import GoSem.ClaimMapViews
import Derived.JoinedTies
import Derived.KernelRfl
namespace Go.Proofs.Ytpljcphiaajjaaa
/- THE CELL 'sum', in the pinned program and in every row, IS THE sha256 OF THE DUMP (.gsa) THAT YtpljcphiaajjaaaProg.lean LOADS. Nothing in Lean hashes anything: it is a label: what it is worth is what the hold of that sum in a sandbox is worth. -/
noncomputable def Try.pinned : Pinned := { name := "ytpljcphiaajjaaa", sum := "31e5f82a8262368442761d22035b01eee61011b8f576e87de69bdacff127fc84", checked := Try.checked }
namespace Rows
def none {H : Type} : Left H := { results := [], args := [] }

/-- 'laws.FnFsNew': WHATEVER THE INPUT: true; the input reads as it did. -/
def fnFsNewSpec : ChangeSpec := { name := "fnFsNew", fn := fun _ => fun
  | [d] => { results := [.lit (.bool true)], args := [d] }
  | _ => none }
def fnFsNewRow : OpenClaim := { program := "ytpljcphiaajjaaa", sum := "31e5f82a8262368442761d22035b01eee61011b8f576e87de69bdacff127fc84", func := "loop.example/quarterdeck/laws.FnFsNew", spec := "fnFsNew", unfollowed := true, recurses := true, apart := false }
def FnFsNewSaid : Prop := fnFsNewRow.holds Try.pinned (OpenSpec.ofChange fnFsNewSpec)

/-- ITS FALSE NEIGHBOUR: 'it returns false'. Refute it at one input. -/
def fnFsNewWrong : ChangeSpec := { name := "fnFsNew", fn := fun _ => fun
  | [d] => { results := [.lit (.bool false)], args := [d] }
  | _ => none }
def FnFsNewWrongFalsely : Prop := fnFsNewRow.holds Try.pinned (OpenSpec.ofChange fnFsNewWrong)

/-- 'laws.FnExactFsOk': WHATEVER THE INPUT: true; the input reads as it did. -/
def fnExactFsOkSpec : ChangeSpec := { name := "fnExactFsOk", fn := fun _ => fun
  | [d] => { results := [.lit (.bool true)], args := [d] }
  | _ => none }
def fnExactFsOkRow : OpenClaim := { program := "ytpljcphiaajjaaa", sum := "31e5f82a8262368442761d22035b01eee61011b8f576e87de69bdacff127fc84", func := "loop.example/quarterdeck/laws.FnExactFsOk", spec := "fnExactFsOk", unfollowed := true, recurses := true, apart := false }
def FnExactFsOkSaid : Prop := fnExactFsOkRow.holds Try.pinned (OpenSpec.ofChange fnExactFsOkSpec)

/-- ITS FALSE NEIGHBOUR: 'it returns false'. Refute it at one input. -/
def fnExactFsOkWrong : ChangeSpec := { name := "fnExactFsOk", fn := fun _ => fun
  | [d] => { results := [.lit (.bool false)], args := [d] }
  | _ => none }
def FnExactFsOkWrongFalsely : Prop := fnExactFsOkRow.holds Try.pinned (OpenSpec.ofChange fnExactFsOkWrong)

/-- 'laws.FnExactFsRead': WHATEVER THE INPUT: true; the input reads as it did. -/
def fnExactFsReadSpec : ChangeSpec := { name := "fnExactFsRead", fn := fun _ => fun
  | [d1, d2, d3, d4] => { results := [.lit (.bool true)], args := [d1, d2, d3, d4] }
  | _ => none }
def fnExactFsReadRow : OpenClaim := { program := "ytpljcphiaajjaaa", sum := "31e5f82a8262368442761d22035b01eee61011b8f576e87de69bdacff127fc84", func := "loop.example/quarterdeck/laws.FnExactFsRead", spec := "fnExactFsRead", unfollowed := true, recurses := true, apart := false }
def FnExactFsReadSaid : Prop := fnExactFsReadRow.holds Try.pinned (OpenSpec.ofChange fnExactFsReadSpec)

/-- ITS FALSE NEIGHBOUR: 'it returns false'. Refute it at one input. -/
def fnExactFsReadWrong : ChangeSpec := { name := "fnExactFsRead", fn := fun _ => fun
  | [d1, d2, d3, d4] => { results := [.lit (.bool false)], args := [d1, d2, d3, d4] }
  | _ => none }
def FnExactFsReadWrongFalsely : Prop := fnExactFsReadRow.holds Try.pinned (OpenSpec.ofChange fnExactFsReadWrong)

/-- 'laws.FnFsOk': WHATEVER THE INPUT: true; the input reads as it did. -/
def fnFsOkSpec : ChangeSpec := { name := "fnFsOk", fn := fun _ => fun
  | [d] => { results := [.lit (.bool true)], args := [d] }
  | _ => none }
def fnFsOkRow : OpenClaim := { program := "ytpljcphiaajjaaa", sum := "31e5f82a8262368442761d22035b01eee61011b8f576e87de69bdacff127fc84", func := "loop.example/quarterdeck/laws.FnFsOk", spec := "fnFsOk", unfollowed := true, recurses := true, apart := false }
def FnFsOkSaid : Prop := fnFsOkRow.holds Try.pinned (OpenSpec.ofChange fnFsOkSpec)

/-- ITS FALSE NEIGHBOUR: 'it returns false'. Refute it at one input. -/
def fnFsOkWrong : ChangeSpec := { name := "fnFsOk", fn := fun _ => fun
  | [d] => { results := [.lit (.bool false)], args := [d] }
  | _ => none }
def FnFsOkWrongFalsely : Prop := fnFsOkRow.holds Try.pinned (OpenSpec.ofChange fnFsOkWrong)

/-- 'laws.FnFsRead': WHATEVER THE INPUT: true; the input reads as it did. -/
def fnFsReadSpec : ChangeSpec := { name := "fnFsRead", fn := fun _ => fun
  | [d] => { results := [.lit (.bool true)], args := [d] }
  | _ => none }
def fnFsReadRow : OpenClaim := { program := "ytpljcphiaajjaaa", sum := "31e5f82a8262368442761d22035b01eee61011b8f576e87de69bdacff127fc84", func := "loop.example/quarterdeck/laws.FnFsRead", spec := "fnFsRead", unfollowed := true, recurses := true, apart := false }
def FnFsReadSaid : Prop := fnFsReadRow.holds Try.pinned (OpenSpec.ofChange fnFsReadSpec)

/-- ITS FALSE NEIGHBOUR: 'it returns false'. Refute it at one input. -/
def fnFsReadWrong : ChangeSpec := { name := "fnFsRead", fn := fun _ => fun
  | [d] => { results := [.lit (.bool false)], args := [d] }
  | _ => none }
def FnFsReadWrongFalsely : Prop := fnFsReadRow.holds Try.pinned (OpenSpec.ofChange fnFsReadWrong)

/-- 'laws.FnExactFsLook': WHATEVER THE INPUT: true; the input reads as it did. -/
def fnExactFsLookSpec : ChangeSpec := { name := "fnExactFsLook", fn := fun _ => fun
  | [d1, d2, d3, d4] => { results := [.lit (.bool true)], args := [d1, d2, d3, d4] }
  | _ => none }
def fnExactFsLookRow : OpenClaim := { program := "ytpljcphiaajjaaa", sum := "31e5f82a8262368442761d22035b01eee61011b8f576e87de69bdacff127fc84", func := "loop.example/quarterdeck/laws.FnExactFsLook", spec := "fnExactFsLook", inPlace := ["internal/bytealg.abigen_runtime_cmpstring"], unfollowed := true, recurses := true, apart := false }
def FnExactFsLookSaid : Prop := fnExactFsLookRow.holds Try.pinned (OpenSpec.ofChange fnExactFsLookSpec)

/-- ITS FALSE NEIGHBOUR: 'it returns false'. Refute it at one input. -/
def fnExactFsLookWrong : ChangeSpec := { name := "fnExactFsLook", fn := fun _ => fun
  | [d1, d2, d3, d4] => { results := [.lit (.bool false)], args := [d1, d2, d3, d4] }
  | _ => none }
def FnExactFsLookWrongFalsely : Prop := fnExactFsLookRow.holds Try.pinned (OpenSpec.ofChange fnExactFsLookWrong)

/-- 'laws.FnFsLook': WHATEVER THE INPUT: true; the input reads as it did. -/
def fnFsLookSpec : ChangeSpec := { name := "fnFsLook", fn := fun _ => fun
  | [d] => { results := [.lit (.bool true)], args := [d] }
  | _ => none }
def fnFsLookRow : OpenClaim := { program := "ytpljcphiaajjaaa", sum := "31e5f82a8262368442761d22035b01eee61011b8f576e87de69bdacff127fc84", func := "loop.example/quarterdeck/laws.FnFsLook", spec := "fnFsLook", inPlace := ["internal/bytealg.abigen_runtime_cmpstring"], unfollowed := true, recurses := true, apart := false }
def FnFsLookSaid : Prop := fnFsLookRow.holds Try.pinned (OpenSpec.ofChange fnFsLookSpec)

/-- ITS FALSE NEIGHBOUR: 'it returns false'. Refute it at one input. -/
def fnFsLookWrong : ChangeSpec := { name := "fnFsLook", fn := fun _ => fun
  | [d] => { results := [.lit (.bool false)], args := [d] }
  | _ => none }
def FnFsLookWrongFalsely : Prop := fnFsLookRow.holds Try.pinned (OpenSpec.ofChange fnFsLookWrong)

/- THE SECOND FORM. 'bulk': how many values and letters a reading holds, each counted each time it is reached (what is shared counts as often as it is met; a slice's spare places count too). A statement '..UptoSaid' is the law's where the arguments, and the package variables that the reading takes, are together of bulk at most 1048576: NARROWER than '..Said'. Prove '..Said' where nothing that the law and all that it calls make is longer than what came in: it says more and counts as full. Else prove '..UptoSaid'. A law counts once. -/
mutual
def uptoBulk {H : Type} : DataW H → Nat
  | .lit (.string bytes) => bytes.length + 1
  | .lit _ => 1
  | .nil => 1
  | .ptr d => uptoBulk d + 1
  | .slice elems spare => uptoBulkAll elems + uptoBulkAll spare + 1
  | .agg parts => uptoBulkAll parts + 1
  | .iface _ d => uptoBulk d + 1
  | .map entries => uptoBulkEntries entries + 1
  | .held _ => 1
def uptoBulkAll {H : Type} : List (DataW H) → Nat
  | [] => 0
  | d :: r => uptoBulk d + uptoBulkAll r
def uptoBulkEntries {H : Type} : List (Lit × DataW H) → Nat
  | [] => 0
  | x :: r => uptoBulkEntry x + uptoBulkEntries r
def uptoBulkEntry {H : Type} : Lit × DataW H → Nat
  | (.string bytes, d) => bytes.length + uptoBulk d + 1
  | (_, d) => uptoBulk d + 1
 end
def uptoSmall : (H : Type) → List (DataW H) → Bool := fun _ ds => decide (uptoBulkAll ds ≤ 1048576)
def OpenSpec.upto (s : _root_.Go.ChangeSpec) : _root_.Go.OpenSpec := { _root_.Go.OpenSpec.ofChange s with cond := some uptoSmall }

/-- 'laws.FnFsNew', WHERE WHAT IT READS IS OF BULK AT MOST 1048576: true; the input reads as it did. -/
def fnFsNewUptoRow : OpenClaim := { program := "ytpljcphiaajjaaa", sum := "31e5f82a8262368442761d22035b01eee61011b8f576e87de69bdacff127fc84", func := "loop.example/quarterdeck/laws.FnFsNew", spec := "fnFsNew", unfollowed := true, recurses := true, apart := false, narrowed := true }
def FnFsNewUptoSaid : Prop := fnFsNewUptoRow.holds Try.pinned (OpenSpec.upto fnFsNewSpec)

/-- 'laws.FnExactFsOk', WHERE WHAT IT READS IS OF BULK AT MOST 1048576: true; the input reads as it did. -/
def fnExactFsOkUptoRow : OpenClaim := { program := "ytpljcphiaajjaaa", sum := "31e5f82a8262368442761d22035b01eee61011b8f576e87de69bdacff127fc84", func := "loop.example/quarterdeck/laws.FnExactFsOk", spec := "fnExactFsOk", unfollowed := true, recurses := true, apart := false, narrowed := true }
def FnExactFsOkUptoSaid : Prop := fnExactFsOkUptoRow.holds Try.pinned (OpenSpec.upto fnExactFsOkSpec)

/-- 'laws.FnExactFsRead', WHERE WHAT IT READS IS OF BULK AT MOST 1048576: true; the input reads as it did. -/
def fnExactFsReadUptoRow : OpenClaim := { program := "ytpljcphiaajjaaa", sum := "31e5f82a8262368442761d22035b01eee61011b8f576e87de69bdacff127fc84", func := "loop.example/quarterdeck/laws.FnExactFsRead", spec := "fnExactFsRead", unfollowed := true, recurses := true, apart := false, narrowed := true }
def FnExactFsReadUptoSaid : Prop := fnExactFsReadUptoRow.holds Try.pinned (OpenSpec.upto fnExactFsReadSpec)

/-- 'laws.FnFsOk', WHERE WHAT IT READS IS OF BULK AT MOST 1048576: true; the input reads as it did. -/
def fnFsOkUptoRow : OpenClaim := { program := "ytpljcphiaajjaaa", sum := "31e5f82a8262368442761d22035b01eee61011b8f576e87de69bdacff127fc84", func := "loop.example/quarterdeck/laws.FnFsOk", spec := "fnFsOk", unfollowed := true, recurses := true, apart := false, narrowed := true }
def FnFsOkUptoSaid : Prop := fnFsOkUptoRow.holds Try.pinned (OpenSpec.upto fnFsOkSpec)

/-- 'laws.FnFsRead', WHERE WHAT IT READS IS OF BULK AT MOST 1048576: true; the input reads as it did. -/
def fnFsReadUptoRow : OpenClaim := { program := "ytpljcphiaajjaaa", sum := "31e5f82a8262368442761d22035b01eee61011b8f576e87de69bdacff127fc84", func := "loop.example/quarterdeck/laws.FnFsRead", spec := "fnFsRead", unfollowed := true, recurses := true, apart := false, narrowed := true }
def FnFsReadUptoSaid : Prop := fnFsReadUptoRow.holds Try.pinned (OpenSpec.upto fnFsReadSpec)

/-- 'laws.FnExactFsLook', WHERE WHAT IT READS IS OF BULK AT MOST 1048576: true; the input reads as it did. -/
def fnExactFsLookUptoRow : OpenClaim := { program := "ytpljcphiaajjaaa", sum := "31e5f82a8262368442761d22035b01eee61011b8f576e87de69bdacff127fc84", func := "loop.example/quarterdeck/laws.FnExactFsLook", spec := "fnExactFsLook", inPlace := ["internal/bytealg.abigen_runtime_cmpstring"], unfollowed := true, recurses := true, apart := false, narrowed := true }
def FnExactFsLookUptoSaid : Prop := fnExactFsLookUptoRow.holds Try.pinned (OpenSpec.upto fnExactFsLookSpec)

/-- 'laws.FnFsLook', WHERE WHAT IT READS IS OF BULK AT MOST 1048576: true; the input reads as it did. -/
def fnFsLookUptoRow : OpenClaim := { program := "ytpljcphiaajjaaa", sum := "31e5f82a8262368442761d22035b01eee61011b8f576e87de69bdacff127fc84", func := "loop.example/quarterdeck/laws.FnFsLook", spec := "fnFsLook", inPlace := ["internal/bytealg.abigen_runtime_cmpstring"], unfollowed := true, recurses := true, apart := false, narrowed := true }
def FnFsLookUptoSaid : Prop := fnFsLookUptoRow.holds Try.pinned (OpenSpec.upto fnFsLookSpec)

end Rows
end Go.Proofs.Ytpljcphiaajjaaa
