/-
  No cell of these rows narrows 'for every input' (looked for: loops, veiled, ifaces, maps, wideKeys, modest, calm, conditions, laid).
  DERIVED. THE GIVEN ROWS OF THIS SEAT. 6 by the template 'for every input the law returns true; each argument reads behind the call as it read before'; 0 by the template 'total and deterministic' (their statements: YtdcblmmfomjhcaaTotals.lean).
  GIVEN WITH THE SEED: the statements are not yours to turn. If you find one false, say at which input.
  Laid BY PROGRAM, IN A SANDBOX (cutbox-rows.mjs): the forced cells as the released guide's own fill.sh prints them over the translation 151dc46e5dfb36a4… (all of the seat's roots in one cut). By AI agents, Wed Nov 11 2026. No macro, syntax, notation, axiom, sorry.
-/
import Derived.Test.YtdcblmmfomjhcaaChecked
import GoSem.Claim
import GoSem.ClaimJoined
import GoSem.ClaimMapViews
import Derived.JoinedTies
import Derived.KernelRfl
namespace Go.Proofs.Ytdcblmmfomjhcaa
/- THE CELL 'sum', in the pinned program and in every row, IS THE sha256 OF THE DUMP (.gsa) THAT YtdcblmmfomjhcaaProg.lean LOADS. Nothing in Lean hashes anything: it is a label: what it is worth is what the hold of that sum in a sandbox is worth. -/
noncomputable def Try.pinned : Pinned := { name := "ytdcblmmfomjhcaa", sum := "151dc46e5dfb36a474f6a27b7cf011bf31696ce0fdd6eaf7c282043fa81b25c6", checked := Try.checked }
namespace Rows
def none {H : Type} : Left H := { results := [], args := [] }

/-- 'laws.FnExactPipeTake': WHATEVER THE INPUT: true; the input reads as it did. -/
def fnExactPipeTakeSpec : ChangeSpec := { name := "fnExactPipeTake", fn := fun _ => fun
  | [d1, d2] => { results := [.lit (.bool true)], args := [d1, d2] }
  | _ => none }
def fnExactPipeTakeRow : OpenClaim := { program := "ytdcblmmfomjhcaa", sum := "151dc46e5dfb36a474f6a27b7cf011bf31696ce0fdd6eaf7c282043fa81b25c6", func := "loop.example/quarterdeck/laws.FnExactPipeTake", spec := "fnExactPipeTake", apart := false }
def FnExactPipeTakeSaid : Prop := fnExactPipeTakeRow.holds Try.pinned (OpenSpec.ofChange fnExactPipeTakeSpec)

/-- ITS FALSE NEIGHBOUR: 'it returns false'. Refute it at one input. -/
def fnExactPipeTakeWrong : ChangeSpec := { name := "fnExactPipeTake", fn := fun _ => fun
  | [d1, d2] => { results := [.lit (.bool false)], args := [d1, d2] }
  | _ => none }
def FnExactPipeTakeWrongFalsely : Prop := fnExactPipeTakeRow.holds Try.pinned (OpenSpec.ofChange fnExactPipeTakeWrong)

/-- 'laws.FnExactPipePut': WHATEVER THE INPUT: true; the input reads as it did. -/
def fnExactPipePutSpec : ChangeSpec := { name := "fnExactPipePut", fn := fun _ => fun
  | [d1, d2] => { results := [.lit (.bool true)], args := [d1, d2] }
  | _ => none }
def fnExactPipePutRow : OpenClaim := { program := "ytdcblmmfomjhcaa", sum := "151dc46e5dfb36a474f6a27b7cf011bf31696ce0fdd6eaf7c282043fa81b25c6", func := "loop.example/quarterdeck/laws.FnExactPipePut", spec := "fnExactPipePut", apart := false }
def FnExactPipePutSaid : Prop := fnExactPipePutRow.holds Try.pinned (OpenSpec.ofChange fnExactPipePutSpec)

/-- ITS FALSE NEIGHBOUR: 'it returns false'. Refute it at one input. -/
def fnExactPipePutWrong : ChangeSpec := { name := "fnExactPipePut", fn := fun _ => fun
  | [d1, d2] => { results := [.lit (.bool false)], args := [d1, d2] }
  | _ => none }
def FnExactPipePutWrongFalsely : Prop := fnExactPipePutRow.holds Try.pinned (OpenSpec.ofChange fnExactPipePutWrong)

/-- 'laws.FnPipeStream': WHATEVER THE INPUT: true; the input reads as it did. -/
def fnPipeStreamSpec : ChangeSpec := { name := "fnPipeStream", fn := fun _ => fun
  | [d1, d2] => { results := [.lit (.bool true)], args := [d1, d2] }
  | _ => none }
def fnPipeStreamRow : OpenClaim := { program := "ytdcblmmfomjhcaa", sum := "151dc46e5dfb36a474f6a27b7cf011bf31696ce0fdd6eaf7c282043fa81b25c6", func := "loop.example/quarterdeck/laws.FnPipeStream", spec := "fnPipeStream", apart := false }
def FnPipeStreamSaid : Prop := fnPipeStreamRow.holds Try.pinned (OpenSpec.ofChange fnPipeStreamSpec)

/-- ITS FALSE NEIGHBOUR: 'it returns false'. Refute it at one input. -/
def fnPipeStreamWrong : ChangeSpec := { name := "fnPipeStream", fn := fun _ => fun
  | [d1, d2] => { results := [.lit (.bool false)], args := [d1, d2] }
  | _ => none }
def FnPipeStreamWrongFalsely : Prop := fnPipeStreamRow.holds Try.pinned (OpenSpec.ofChange fnPipeStreamWrong)

/-- 'laws.FnPipeWhole': WHATEVER THE INPUT: true; the input reads as it did. -/
def fnPipeWholeSpec : ChangeSpec := { name := "fnPipeWhole", fn := fun _ => fun
  | [d1, d2] => { results := [.lit (.bool true)], args := [d1, d2] }
  | _ => none }
def fnPipeWholeRow : OpenClaim := { program := "ytdcblmmfomjhcaa", sum := "151dc46e5dfb36a474f6a27b7cf011bf31696ce0fdd6eaf7c282043fa81b25c6", func := "loop.example/quarterdeck/laws.FnPipeWhole", spec := "fnPipeWhole", apart := false }
def FnPipeWholeSaid : Prop := fnPipeWholeRow.holds Try.pinned (OpenSpec.ofChange fnPipeWholeSpec)

/-- ITS FALSE NEIGHBOUR: 'it returns false'. Refute it at one input. -/
def fnPipeWholeWrong : ChangeSpec := { name := "fnPipeWhole", fn := fun _ => fun
  | [d1, d2] => { results := [.lit (.bool false)], args := [d1, d2] }
  | _ => none }
def FnPipeWholeWrongFalsely : Prop := fnPipeWholeRow.holds Try.pinned (OpenSpec.ofChange fnPipeWholeWrong)

/-- 'laws.FnPipeTake': WHATEVER THE INPUT: true; the input reads as it did. -/
def fnPipeTakeSpec : ChangeSpec := { name := "fnPipeTake", fn := fun _ => fun
  | [d] => { results := [.lit (.bool true)], args := [d] }
  | _ => none }
def fnPipeTakeRow : OpenClaim := { program := "ytdcblmmfomjhcaa", sum := "151dc46e5dfb36a474f6a27b7cf011bf31696ce0fdd6eaf7c282043fa81b25c6", func := "loop.example/quarterdeck/laws.FnPipeTake", spec := "fnPipeTake", apart := false }
def FnPipeTakeSaid : Prop := fnPipeTakeRow.holds Try.pinned (OpenSpec.ofChange fnPipeTakeSpec)

/-- ITS FALSE NEIGHBOUR: 'it returns false'. Refute it at one input. -/
def fnPipeTakeWrong : ChangeSpec := { name := "fnPipeTake", fn := fun _ => fun
  | [d] => { results := [.lit (.bool false)], args := [d] }
  | _ => none }
def FnPipeTakeWrongFalsely : Prop := fnPipeTakeRow.holds Try.pinned (OpenSpec.ofChange fnPipeTakeWrong)

/-- 'laws.FnPipePut': WHATEVER THE INPUT: true; the input reads as it did. -/
def fnPipePutSpec : ChangeSpec := { name := "fnPipePut", fn := fun _ => fun
  | [d] => { results := [.lit (.bool true)], args := [d] }
  | _ => none }
def fnPipePutRow : OpenClaim := { program := "ytdcblmmfomjhcaa", sum := "151dc46e5dfb36a474f6a27b7cf011bf31696ce0fdd6eaf7c282043fa81b25c6", func := "loop.example/quarterdeck/laws.FnPipePut", spec := "fnPipePut", apart := false }
def FnPipePutSaid : Prop := fnPipePutRow.holds Try.pinned (OpenSpec.ofChange fnPipePutSpec)

/-- ITS FALSE NEIGHBOUR: 'it returns false'. Refute it at one input. -/
def fnPipePutWrong : ChangeSpec := { name := "fnPipePut", fn := fun _ => fun
  | [d] => { results := [.lit (.bool false)], args := [d] }
  | _ => none }
def FnPipePutWrongFalsely : Prop := fnPipePutRow.holds Try.pinned (OpenSpec.ofChange fnPipePutWrong)

/- THE SECOND FORM. 'bulk': how many values and letters a reading holds, each counted each time it is reached (what is shared counts as often as it is met; a slice's spare places count too). A statement '..UptoSaid' is the law's where the arguments, and the package variables that the reading takes, are together of bulk at most 1048576: NARROWER than '..Said'. Prove '..Said' where nothing that the law and all that it calls make is longer than what came in: it says more and counts as full. Else prove '..UptoSaid'. A law counts once. -/
mutual
def uptoBulk {H : Type} : DataW H → Nat
  | .lit (.string bytes) => bytes.length + 1
  | .lit _ => 1
  | .nil => 1
  | .ptr d => uptoBulk d + 1
  | .slice elems spare => uptoBulkAll elems + uptoBulkAll spare + 1
  | .agg parts => uptoBulkAll parts + 1
  | .iface _ d => uptoBulk d + 1
  | .map entries => uptoBulkEntries entries + 1
  | .held _ => 1
def uptoBulkAll {H : Type} : List (DataW H) → Nat
  | [] => 0
  | d :: r => uptoBulk d + uptoBulkAll r
def uptoBulkEntries {H : Type} : List (Lit × DataW H) → Nat
  | [] => 0
  | x :: r => uptoBulkEntry x + uptoBulkEntries r
def uptoBulkEntry {H : Type} : Lit × DataW H → Nat
  | (.string bytes, d) => bytes.length + uptoBulk d + 1
  | (_, d) => uptoBulk d + 1
 end
def uptoSmall : (H : Type) → List (DataW H) → Bool := fun _ ds => decide (uptoBulkAll ds ≤ 1048576)
def OpenSpec.upto (s : _root_.Go.ChangeSpec) : _root_.Go.OpenSpec := { _root_.Go.OpenSpec.ofChange s with cond := some uptoSmall }

/-- 'laws.FnExactPipeTake', WHERE WHAT IT READS IS OF BULK AT MOST 1048576: true; the input reads as it did. -/
def fnExactPipeTakeUptoRow : OpenClaim := { program := "ytdcblmmfomjhcaa", sum := "151dc46e5dfb36a474f6a27b7cf011bf31696ce0fdd6eaf7c282043fa81b25c6", func := "loop.example/quarterdeck/laws.FnExactPipeTake", spec := "fnExactPipeTake", apart := false, narrowed := true }
def FnExactPipeTakeUptoSaid : Prop := fnExactPipeTakeUptoRow.holds Try.pinned (OpenSpec.upto fnExactPipeTakeSpec)

/-- 'laws.FnExactPipePut', WHERE WHAT IT READS IS OF BULK AT MOST 1048576: true; the input reads as it did. -/
def fnExactPipePutUptoRow : OpenClaim := { program := "ytdcblmmfomjhcaa", sum := "151dc46e5dfb36a474f6a27b7cf011bf31696ce0fdd6eaf7c282043fa81b25c6", func := "loop.example/quarterdeck/laws.FnExactPipePut", spec := "fnExactPipePut", apart := false, narrowed := true }
def FnExactPipePutUptoSaid : Prop := fnExactPipePutUptoRow.holds Try.pinned (OpenSpec.upto fnExactPipePutSpec)

/-- 'laws.FnPipeStream', WHERE WHAT IT READS IS OF BULK AT MOST 1048576: true; the input reads as it did. -/
def fnPipeStreamUptoRow : OpenClaim := { program := "ytdcblmmfomjhcaa", sum := "151dc46e5dfb36a474f6a27b7cf011bf31696ce0fdd6eaf7c282043fa81b25c6", func := "loop.example/quarterdeck/laws.FnPipeStream", spec := "fnPipeStream", apart := false, narrowed := true }
def FnPipeStreamUptoSaid : Prop := fnPipeStreamUptoRow.holds Try.pinned (OpenSpec.upto fnPipeStreamSpec)

/-- 'laws.FnPipeWhole', WHERE WHAT IT READS IS OF BULK AT MOST 1048576: true; the input reads as it did. -/
def fnPipeWholeUptoRow : OpenClaim := { program := "ytdcblmmfomjhcaa", sum := "151dc46e5dfb36a474f6a27b7cf011bf31696ce0fdd6eaf7c282043fa81b25c6", func := "loop.example/quarterdeck/laws.FnPipeWhole", spec := "fnPipeWhole", apart := false, narrowed := true }
def FnPipeWholeUptoSaid : Prop := fnPipeWholeUptoRow.holds Try.pinned (OpenSpec.upto fnPipeWholeSpec)

/-- 'laws.FnPipeTake', WHERE WHAT IT READS IS OF BULK AT MOST 1048576: true; the input reads as it did. -/
def fnPipeTakeUptoRow : OpenClaim := { program := "ytdcblmmfomjhcaa", sum := "151dc46e5dfb36a474f6a27b7cf011bf31696ce0fdd6eaf7c282043fa81b25c6", func := "loop.example/quarterdeck/laws.FnPipeTake", spec := "fnPipeTake", apart := false, narrowed := true }
def FnPipeTakeUptoSaid : Prop := fnPipeTakeUptoRow.holds Try.pinned (OpenSpec.upto fnPipeTakeSpec)

/-- 'laws.FnPipePut', WHERE WHAT IT READS IS OF BULK AT MOST 1048576: true; the input reads as it did. -/
def fnPipePutUptoRow : OpenClaim := { program := "ytdcblmmfomjhcaa", sum := "151dc46e5dfb36a474f6a27b7cf011bf31696ce0fdd6eaf7c282043fa81b25c6", func := "loop.example/quarterdeck/laws.FnPipePut", spec := "fnPipePut", apart := false, narrowed := true }
def FnPipePutUptoSaid : Prop := fnPipePutUptoRow.holds Try.pinned (OpenSpec.upto fnPipePutSpec)

end Rows
end Go.Proofs.Ytdcblmmfomjhcaa
