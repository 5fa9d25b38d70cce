/-
  No cell of these rows narrows 'for every input' (looked for: loops, veiled, ifaces, maps, wideKeys, modest, calm, conditions, laid).
  DERIVED. THE GIVEN ROWS OF THIS SEAT. 6 by the template 'for every input the law returns true; each argument reads behind the call as it read before'; 0 by the template 'total and deterministic' (their statements: YtahncndhlpdegaaTotals.lean).
  GIVEN WITH THE SEED: the statements are not yours to turn. If you find one false, say at which input.
  Laid BY PROGRAM, IN A SANDBOX (cutbox-rows.mjs): the forced cells as the released guide's own fill.sh prints them over the translation 362fe55f0824f0d8… (all of the seat's roots in one cut). By AI agents, Wed Nov 11 2026. No macro, syntax, notation, axiom, sorry.
-/
import Derived.Test.YtahncndhlpdegaaChecked
import GoSem.Claim
import GoSem.ClaimJoined
import GoSem.ClaimMapViews
import Derived.JoinedTies
import Derived.KernelRfl
namespace Go.Proofs.Ytahncndhlpdegaa
/- THE CELL 'sum', in the pinned program and in every row, IS THE sha256 OF THE DUMP (.gsa) THAT YtahncndhlpdegaaProg.lean LOADS. Nothing in Lean hashes anything: it is a label: what it is worth is what the hold of that sum in a sandbox is worth. -/
noncomputable def Try.pinned : Pinned := { name := "ytahncndhlpdegaa", sum := "362fe55f0824f0d848063c14457788e8a47361cd12a858223815218e808d2158", checked := Try.checked }
namespace Rows
def none {H : Type} : Left H := { results := [], args := [] }

/-- 'laws.FnPagesNew': WHATEVER THE INPUT: true; the input reads as it did. -/
def fnPagesNewSpec : ChangeSpec := { name := "fnPagesNew", fn := fun _ => fun
  | [d] => { results := [.lit (.bool true)], args := [d] }
  | _ => none }
def fnPagesNewRow : OpenClaim := { program := "ytahncndhlpdegaa", sum := "362fe55f0824f0d848063c14457788e8a47361cd12a858223815218e808d2158", func := "loop.example/quarterdeck/laws.FnPagesNew", spec := "fnPagesNew", apart := false }
def FnPagesNewSaid : Prop := fnPagesNewRow.holds Try.pinned (OpenSpec.ofChange fnPagesNewSpec)

/-- ITS FALSE NEIGHBOUR: 'it returns false'. Refute it at one input. -/
def fnPagesNewWrong : ChangeSpec := { name := "fnPagesNew", fn := fun _ => fun
  | [d] => { results := [.lit (.bool false)], args := [d] }
  | _ => none }
def FnPagesNewWrongFalsely : Prop := fnPagesNewRow.holds Try.pinned (OpenSpec.ofChange fnPagesNewWrong)

/-- 'laws.FnExactPagesNew': WHATEVER THE INPUT: true; the input reads as it did. -/
def fnExactPagesNewSpec : ChangeSpec := { name := "fnExactPagesNew", fn := fun _ => fun
  | [d] => { results := [.lit (.bool true)], args := [d] }
  | _ => none }
def fnExactPagesNewRow : OpenClaim := { program := "ytahncndhlpdegaa", sum := "362fe55f0824f0d848063c14457788e8a47361cd12a858223815218e808d2158", func := "loop.example/quarterdeck/laws.FnExactPagesNew", spec := "fnExactPagesNew", apart := false }
def FnExactPagesNewSaid : Prop := fnExactPagesNewRow.holds Try.pinned (OpenSpec.ofChange fnExactPagesNewSpec)

/-- ITS FALSE NEIGHBOUR: 'it returns false'. Refute it at one input. -/
def fnExactPagesNewWrong : ChangeSpec := { name := "fnExactPagesNew", fn := fun _ => fun
  | [d] => { results := [.lit (.bool false)], args := [d] }
  | _ => none }
def FnExactPagesNewWrongFalsely : Prop := fnExactPagesNewRow.holds Try.pinned (OpenSpec.ofChange fnExactPagesNewWrong)

/-- 'laws.FnExactPagesOk': WHATEVER THE INPUT: true; the input reads as it did. -/
def fnExactPagesOkSpec : ChangeSpec := { name := "fnExactPagesOk", fn := fun _ => fun
  | [d] => { results := [.lit (.bool true)], args := [d] }
  | _ => none }
def fnExactPagesOkRow : OpenClaim := { program := "ytahncndhlpdegaa", sum := "362fe55f0824f0d848063c14457788e8a47361cd12a858223815218e808d2158", func := "loop.example/quarterdeck/laws.FnExactPagesOk", spec := "fnExactPagesOk", apart := false }
def FnExactPagesOkSaid : Prop := fnExactPagesOkRow.holds Try.pinned (OpenSpec.ofChange fnExactPagesOkSpec)

/-- ITS FALSE NEIGHBOUR: 'it returns false'. Refute it at one input. -/
def fnExactPagesOkWrong : ChangeSpec := { name := "fnExactPagesOk", fn := fun _ => fun
  | [d] => { results := [.lit (.bool false)], args := [d] }
  | _ => none }
def FnExactPagesOkWrongFalsely : Prop := fnExactPagesOkRow.holds Try.pinned (OpenSpec.ofChange fnExactPagesOkWrong)

/-- 'laws.FnPagesOk': WHATEVER THE INPUT: true; the input reads as it did. -/
def fnPagesOkSpec : ChangeSpec := { name := "fnPagesOk", fn := fun _ => fun
  | [d] => { results := [.lit (.bool true)], args := [d] }
  | _ => none }
def fnPagesOkRow : OpenClaim := { program := "ytahncndhlpdegaa", sum := "362fe55f0824f0d848063c14457788e8a47361cd12a858223815218e808d2158", func := "loop.example/quarterdeck/laws.FnPagesOk", spec := "fnPagesOk", apart := false }
def FnPagesOkSaid : Prop := fnPagesOkRow.holds Try.pinned (OpenSpec.ofChange fnPagesOkSpec)

/-- ITS FALSE NEIGHBOUR: 'it returns false'. Refute it at one input. -/
def fnPagesOkWrong : ChangeSpec := { name := "fnPagesOk", fn := fun _ => fun
  | [d] => { results := [.lit (.bool false)], args := [d] }
  | _ => none }
def FnPagesOkWrongFalsely : Prop := fnPagesOkRow.holds Try.pinned (OpenSpec.ofChange fnPagesOkWrong)

/-- 'laws.FnPagesGet': WHATEVER THE INPUT: true; the input reads as it did. -/
def fnPagesGetSpec : ChangeSpec := { name := "fnPagesGet", fn := fun _ => fun
  | [d] => { results := [.lit (.bool true)], args := [d] }
  | _ => none }
def fnPagesGetRow : OpenClaim := { program := "ytahncndhlpdegaa", sum := "362fe55f0824f0d848063c14457788e8a47361cd12a858223815218e808d2158", func := "loop.example/quarterdeck/laws.FnPagesGet", spec := "fnPagesGet", apart := false }
def FnPagesGetSaid : Prop := fnPagesGetRow.holds Try.pinned (OpenSpec.ofChange fnPagesGetSpec)

/-- ITS FALSE NEIGHBOUR: 'it returns false'. Refute it at one input. -/
def fnPagesGetWrong : ChangeSpec := { name := "fnPagesGet", fn := fun _ => fun
  | [d] => { results := [.lit (.bool false)], args := [d] }
  | _ => none }
def FnPagesGetWrongFalsely : Prop := fnPagesGetRow.holds Try.pinned (OpenSpec.ofChange fnPagesGetWrong)

/-- 'laws.FnExactPagesGet': WHATEVER THE INPUT: true; the input reads as it did. -/
def fnExactPagesGetSpec : ChangeSpec := { name := "fnExactPagesGet", fn := fun _ => fun
  | [d1, d2] => { results := [.lit (.bool true)], args := [d1, d2] }
  | _ => none }
def fnExactPagesGetRow : OpenClaim := { program := "ytahncndhlpdegaa", sum := "362fe55f0824f0d848063c14457788e8a47361cd12a858223815218e808d2158", func := "loop.example/quarterdeck/laws.FnExactPagesGet", spec := "fnExactPagesGet", apart := false }
def FnExactPagesGetSaid : Prop := fnExactPagesGetRow.holds Try.pinned (OpenSpec.ofChange fnExactPagesGetSpec)

/-- ITS FALSE NEIGHBOUR: 'it returns false'. Refute it at one input. -/
def fnExactPagesGetWrong : ChangeSpec := { name := "fnExactPagesGet", fn := fun _ => fun
  | [d1, d2] => { results := [.lit (.bool false)], args := [d1, d2] }
  | _ => none }
def FnExactPagesGetWrongFalsely : Prop := fnExactPagesGetRow.holds Try.pinned (OpenSpec.ofChange fnExactPagesGetWrong)

/- THE SECOND FORM. 'bulk': how many values and letters a reading holds, each counted each time it is reached (what is shared counts as often as it is met; a slice's spare places count too). A statement '..UptoSaid' is the law's where the arguments, and the package variables that the reading takes, are together of bulk at most 1048576: NARROWER than '..Said'. Prove '..Said' where nothing that the law and all that it calls make is longer than what came in: it says more and counts as full. Else prove '..UptoSaid'. A law counts once. -/
mutual
def uptoBulk {H : Type} : DataW H → Nat
  | .lit (.string bytes) => bytes.length + 1
  | .lit _ => 1
  | .nil => 1
  | .ptr d => uptoBulk d + 1
  | .slice elems spare => uptoBulkAll elems + uptoBulkAll spare + 1
  | .agg parts => uptoBulkAll parts + 1
  | .iface _ d => uptoBulk d + 1
  | .map entries => uptoBulkEntries entries + 1
  | .held _ => 1
def uptoBulkAll {H : Type} : List (DataW H) → Nat
  | [] => 0
  | d :: r => uptoBulk d + uptoBulkAll r
def uptoBulkEntries {H : Type} : List (Lit × DataW H) → Nat
  | [] => 0
  | x :: r => uptoBulkEntry x + uptoBulkEntries r
def uptoBulkEntry {H : Type} : Lit × DataW H → Nat
  | (.string bytes, d) => bytes.length + uptoBulk d + 1
  | (_, d) => uptoBulk d + 1
 end
def uptoSmall : (H : Type) → List (DataW H) → Bool := fun _ ds => decide (uptoBulkAll ds ≤ 1048576)
def OpenSpec.upto (s : _root_.Go.ChangeSpec) : _root_.Go.OpenSpec := { _root_.Go.OpenSpec.ofChange s with cond := some uptoSmall }

/-- 'laws.FnPagesNew', WHERE WHAT IT READS IS OF BULK AT MOST 1048576: true; the input reads as it did. -/
def fnPagesNewUptoRow : OpenClaim := { program := "ytahncndhlpdegaa", sum := "362fe55f0824f0d848063c14457788e8a47361cd12a858223815218e808d2158", func := "loop.example/quarterdeck/laws.FnPagesNew", spec := "fnPagesNew", apart := false, narrowed := true }
def FnPagesNewUptoSaid : Prop := fnPagesNewUptoRow.holds Try.pinned (OpenSpec.upto fnPagesNewSpec)

/-- 'laws.FnExactPagesNew', WHERE WHAT IT READS IS OF BULK AT MOST 1048576: true; the input reads as it did. -/
def fnExactPagesNewUptoRow : OpenClaim := { program := "ytahncndhlpdegaa", sum := "362fe55f0824f0d848063c14457788e8a47361cd12a858223815218e808d2158", func := "loop.example/quarterdeck/laws.FnExactPagesNew", spec := "fnExactPagesNew", apart := false, narrowed := true }
def FnExactPagesNewUptoSaid : Prop := fnExactPagesNewUptoRow.holds Try.pinned (OpenSpec.upto fnExactPagesNewSpec)

/-- 'laws.FnExactPagesOk', WHERE WHAT IT READS IS OF BULK AT MOST 1048576: true; the input reads as it did. -/
def fnExactPagesOkUptoRow : OpenClaim := { program := "ytahncndhlpdegaa", sum := "362fe55f0824f0d848063c14457788e8a47361cd12a858223815218e808d2158", func := "loop.example/quarterdeck/laws.FnExactPagesOk", spec := "fnExactPagesOk", apart := false, narrowed := true }
def FnExactPagesOkUptoSaid : Prop := fnExactPagesOkUptoRow.holds Try.pinned (OpenSpec.upto fnExactPagesOkSpec)

/-- 'laws.FnPagesOk', WHERE WHAT IT READS IS OF BULK AT MOST 1048576: true; the input reads as it did. -/
def fnPagesOkUptoRow : OpenClaim := { program := "ytahncndhlpdegaa", sum := "362fe55f0824f0d848063c14457788e8a47361cd12a858223815218e808d2158", func := "loop.example/quarterdeck/laws.FnPagesOk", spec := "fnPagesOk", apart := false, narrowed := true }
def FnPagesOkUptoSaid : Prop := fnPagesOkUptoRow.holds Try.pinned (OpenSpec.upto fnPagesOkSpec)

/-- 'laws.FnPagesGet', WHERE WHAT IT READS IS OF BULK AT MOST 1048576: true; the input reads as it did. -/
def fnPagesGetUptoRow : OpenClaim := { program := "ytahncndhlpdegaa", sum := "362fe55f0824f0d848063c14457788e8a47361cd12a858223815218e808d2158", func := "loop.example/quarterdeck/laws.FnPagesGet", spec := "fnPagesGet", apart := false, narrowed := true }
def FnPagesGetUptoSaid : Prop := fnPagesGetUptoRow.holds Try.pinned (OpenSpec.upto fnPagesGetSpec)

/-- 'laws.FnExactPagesGet', WHERE WHAT IT READS IS OF BULK AT MOST 1048576: true; the input reads as it did. -/
def fnExactPagesGetUptoRow : OpenClaim := { program := "ytahncndhlpdegaa", sum := "362fe55f0824f0d848063c14457788e8a47361cd12a858223815218e808d2158", func := "loop.example/quarterdeck/laws.FnExactPagesGet", spec := "fnExactPagesGet", apart := false, narrowed := true }
def FnExactPagesGetUptoSaid : Prop := fnExactPagesGetUptoRow.holds Try.pinned (OpenSpec.upto fnExactPagesGetSpec)

end Rows
end Go.Proofs.Ytahncndhlpdegaa
