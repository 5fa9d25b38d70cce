/-
  No cell of these rows narrows 'for every input' (looked for: loops, veiled, ifaces, maps, wideKeys, modest, calm, conditions, laid).
  DERIVED. THE GIVEN ROWS OF THIS SEAT. 6 by the template 'for every input the law returns true; each argument reads behind the call as it read before'; 0 by the template 'total and deterministic' (their statements: YtkjijijhecbigaaTotals.lean).
  GIVEN WITH THE SEED: the statements are not yours to turn. If you find one false, say at which input.
  Laid BY PROGRAM, IN A SANDBOX (cutbox-rows.mjs): the forced cells as the released guide's own fill.sh prints them over the translation 66906f339d682679… (all of the seat's roots in one cut). By AI agents, Wed Nov 11 2026. No macro, syntax, notation, axiom, sorry.
-/
import Derived.Test.YtkjijijhecbigaaChecked
import GoSem.Claim
import GoSem.ClaimJoined
import GoSem.ClaimMapViews
import Derived.JoinedTies
import Derived.KernelRfl
namespace Go.Proofs.Ytkjijijhecbigaa
/- THE CELL 'sum', in the pinned program and in every row, IS THE sha256 OF THE DUMP (.gsa) THAT YtkjijijhecbigaaProg.lean LOADS. Nothing in Lean hashes anything: it is a label: what it is worth is what the hold of that sum in a sandbox is worth. -/
noncomputable def Try.pinned : Pinned := { name := "ytkjijijhecbigaa", sum := "66906f339d682679f74d76968a54a10d4e09bf993fc33503a7dc0dcc217bc7c1", checked := Try.checked }
namespace Rows
def none {H : Type} : Left H := { results := [], args := [] }

/-- 'laws.FnExactPipeJoin': WHATEVER THE INPUT: true; the input reads as it did. -/
def fnExactPipeJoinSpec : ChangeSpec := { name := "fnExactPipeJoin", fn := fun _ => fun
  | [d1, d2] => { results := [.lit (.bool true)], args := [d1, d2] }
  | _ => none }
def fnExactPipeJoinRow : OpenClaim := { program := "ytkjijijhecbigaa", sum := "66906f339d682679f74d76968a54a10d4e09bf993fc33503a7dc0dcc217bc7c1", func := "loop.example/quarterdeck/laws.FnExactPipeJoin", spec := "fnExactPipeJoin", apart := false }
def FnExactPipeJoinSaid : Prop := fnExactPipeJoinRow.holds Try.pinned (OpenSpec.ofChange fnExactPipeJoinSpec)

/-- ITS FALSE NEIGHBOUR: 'it returns false'. Refute it at one input. -/
def fnExactPipeJoinWrong : ChangeSpec := { name := "fnExactPipeJoin", fn := fun _ => fun
  | [d1, d2] => { results := [.lit (.bool false)], args := [d1, d2] }
  | _ => none }
def FnExactPipeJoinWrongFalsely : Prop := fnExactPipeJoinRow.holds Try.pinned (OpenSpec.ofChange fnExactPipeJoinWrong)

/-- 'laws.FnExactPipeLeave': WHATEVER THE INPUT: true; the input reads as it did. -/
def fnExactPipeLeaveSpec : ChangeSpec := { name := "fnExactPipeLeave", fn := fun _ => fun
  | [d1, d2] => { results := [.lit (.bool true)], args := [d1, d2] }
  | _ => none }
def fnExactPipeLeaveRow : OpenClaim := { program := "ytkjijijhecbigaa", sum := "66906f339d682679f74d76968a54a10d4e09bf993fc33503a7dc0dcc217bc7c1", func := "loop.example/quarterdeck/laws.FnExactPipeLeave", spec := "fnExactPipeLeave", apart := false }
def FnExactPipeLeaveSaid : Prop := fnExactPipeLeaveRow.holds Try.pinned (OpenSpec.ofChange fnExactPipeLeaveSpec)

/-- ITS FALSE NEIGHBOUR: 'it returns false'. Refute it at one input. -/
def fnExactPipeLeaveWrong : ChangeSpec := { name := "fnExactPipeLeave", fn := fun _ => fun
  | [d1, d2] => { results := [.lit (.bool false)], args := [d1, d2] }
  | _ => none }
def FnExactPipeLeaveWrongFalsely : Prop := fnExactPipeLeaveRow.holds Try.pinned (OpenSpec.ofChange fnExactPipeLeaveWrong)

/-- 'laws.FnPipeOk': WHATEVER THE INPUT: true; the input reads as it did. -/
def fnPipeOkSpec : ChangeSpec := { name := "fnPipeOk", fn := fun _ => fun
  | [d] => { results := [.lit (.bool true)], args := [d] }
  | _ => none }
def fnPipeOkRow : OpenClaim := { program := "ytkjijijhecbigaa", sum := "66906f339d682679f74d76968a54a10d4e09bf993fc33503a7dc0dcc217bc7c1", func := "loop.example/quarterdeck/laws.FnPipeOk", spec := "fnPipeOk", apart := false }
def FnPipeOkSaid : Prop := fnPipeOkRow.holds Try.pinned (OpenSpec.ofChange fnPipeOkSpec)

/-- ITS FALSE NEIGHBOUR: 'it returns false'. Refute it at one input. -/
def fnPipeOkWrong : ChangeSpec := { name := "fnPipeOk", fn := fun _ => fun
  | [d] => { results := [.lit (.bool false)], args := [d] }
  | _ => none }
def FnPipeOkWrongFalsely : Prop := fnPipeOkRow.holds Try.pinned (OpenSpec.ofChange fnPipeOkWrong)

/-- 'laws.FnPipeDrain': WHATEVER THE INPUT: true; the input reads as it did. -/
def fnPipeDrainSpec : ChangeSpec := { name := "fnPipeDrain", fn := fun _ => fun
  | [d] => { results := [.lit (.bool true)], args := [d] }
  | _ => none }
def fnPipeDrainRow : OpenClaim := { program := "ytkjijijhecbigaa", sum := "66906f339d682679f74d76968a54a10d4e09bf993fc33503a7dc0dcc217bc7c1", func := "loop.example/quarterdeck/laws.FnPipeDrain", spec := "fnPipeDrain", apart := false }
def FnPipeDrainSaid : Prop := fnPipeDrainRow.holds Try.pinned (OpenSpec.ofChange fnPipeDrainSpec)

/-- ITS FALSE NEIGHBOUR: 'it returns false'. Refute it at one input. -/
def fnPipeDrainWrong : ChangeSpec := { name := "fnPipeDrain", fn := fun _ => fun
  | [d] => { results := [.lit (.bool false)], args := [d] }
  | _ => none }
def FnPipeDrainWrongFalsely : Prop := fnPipeDrainRow.holds Try.pinned (OpenSpec.ofChange fnPipeDrainWrong)

/-- 'laws.FnPipeLeave': WHATEVER THE INPUT: true; the input reads as it did. -/
def fnPipeLeaveSpec : ChangeSpec := { name := "fnPipeLeave", fn := fun _ => fun
  | [d] => { results := [.lit (.bool true)], args := [d] }
  | _ => none }
def fnPipeLeaveRow : OpenClaim := { program := "ytkjijijhecbigaa", sum := "66906f339d682679f74d76968a54a10d4e09bf993fc33503a7dc0dcc217bc7c1", func := "loop.example/quarterdeck/laws.FnPipeLeave", spec := "fnPipeLeave", apart := false }
def FnPipeLeaveSaid : Prop := fnPipeLeaveRow.holds Try.pinned (OpenSpec.ofChange fnPipeLeaveSpec)

/-- ITS FALSE NEIGHBOUR: 'it returns false'. Refute it at one input. -/
def fnPipeLeaveWrong : ChangeSpec := { name := "fnPipeLeave", fn := fun _ => fun
  | [d] => { results := [.lit (.bool false)], args := [d] }
  | _ => none }
def FnPipeLeaveWrongFalsely : Prop := fnPipeLeaveRow.holds Try.pinned (OpenSpec.ofChange fnPipeLeaveWrong)

/-- 'laws.FnPipeJoin': WHATEVER THE INPUT: true; the input reads as it did. -/
def fnPipeJoinSpec : ChangeSpec := { name := "fnPipeJoin", fn := fun _ => fun
  | [d] => { results := [.lit (.bool true)], args := [d] }
  | _ => none }
def fnPipeJoinRow : OpenClaim := { program := "ytkjijijhecbigaa", sum := "66906f339d682679f74d76968a54a10d4e09bf993fc33503a7dc0dcc217bc7c1", func := "loop.example/quarterdeck/laws.FnPipeJoin", spec := "fnPipeJoin", apart := false }
def FnPipeJoinSaid : Prop := fnPipeJoinRow.holds Try.pinned (OpenSpec.ofChange fnPipeJoinSpec)

/-- ITS FALSE NEIGHBOUR: 'it returns false'. Refute it at one input. -/
def fnPipeJoinWrong : ChangeSpec := { name := "fnPipeJoin", fn := fun _ => fun
  | [d] => { results := [.lit (.bool false)], args := [d] }
  | _ => none }
def FnPipeJoinWrongFalsely : Prop := fnPipeJoinRow.holds Try.pinned (OpenSpec.ofChange fnPipeJoinWrong)

/- THE SECOND FORM. 'bulk': how many values and letters a reading holds, each counted each time it is reached (what is shared counts as often as it is met; a slice's spare places count too). A statement '..UptoSaid' is the law's where the arguments, and the package variables that the reading takes, are together of bulk at most 1048576: NARROWER than '..Said'. Prove '..Said' where nothing that the law and all that it calls make is longer than what came in: it says more and counts as full. Else prove '..UptoSaid'. A law counts once. -/
mutual
def uptoBulk {H : Type} : DataW H → Nat
  | .lit (.string bytes) => bytes.length + 1
  | .lit _ => 1
  | .nil => 1
  | .ptr d => uptoBulk d + 1
  | .slice elems spare => uptoBulkAll elems + uptoBulkAll spare + 1
  | .agg parts => uptoBulkAll parts + 1
  | .iface _ d => uptoBulk d + 1
  | .map entries => uptoBulkEntries entries + 1
  | .held _ => 1
def uptoBulkAll {H : Type} : List (DataW H) → Nat
  | [] => 0
  | d :: r => uptoBulk d + uptoBulkAll r
def uptoBulkEntries {H : Type} : List (Lit × DataW H) → Nat
  | [] => 0
  | x :: r => uptoBulkEntry x + uptoBulkEntries r
def uptoBulkEntry {H : Type} : Lit × DataW H → Nat
  | (.string bytes, d) => bytes.length + uptoBulk d + 1
  | (_, d) => uptoBulk d + 1
 end
def uptoSmall : (H : Type) → List (DataW H) → Bool := fun _ ds => decide (uptoBulkAll ds ≤ 1048576)
def OpenSpec.upto (s : _root_.Go.ChangeSpec) : _root_.Go.OpenSpec := { _root_.Go.OpenSpec.ofChange s with cond := some uptoSmall }

/-- 'laws.FnExactPipeJoin', WHERE WHAT IT READS IS OF BULK AT MOST 1048576: true; the input reads as it did. -/
def fnExactPipeJoinUptoRow : OpenClaim := { program := "ytkjijijhecbigaa", sum := "66906f339d682679f74d76968a54a10d4e09bf993fc33503a7dc0dcc217bc7c1", func := "loop.example/quarterdeck/laws.FnExactPipeJoin", spec := "fnExactPipeJoin", apart := false, narrowed := true }
def FnExactPipeJoinUptoSaid : Prop := fnExactPipeJoinUptoRow.holds Try.pinned (OpenSpec.upto fnExactPipeJoinSpec)

/-- 'laws.FnExactPipeLeave', WHERE WHAT IT READS IS OF BULK AT MOST 1048576: true; the input reads as it did. -/
def fnExactPipeLeaveUptoRow : OpenClaim := { program := "ytkjijijhecbigaa", sum := "66906f339d682679f74d76968a54a10d4e09bf993fc33503a7dc0dcc217bc7c1", func := "loop.example/quarterdeck/laws.FnExactPipeLeave", spec := "fnExactPipeLeave", apart := false, narrowed := true }
def FnExactPipeLeaveUptoSaid : Prop := fnExactPipeLeaveUptoRow.holds Try.pinned (OpenSpec.upto fnExactPipeLeaveSpec)

/-- 'laws.FnPipeOk', WHERE WHAT IT READS IS OF BULK AT MOST 1048576: true; the input reads as it did. -/
def fnPipeOkUptoRow : OpenClaim := { program := "ytkjijijhecbigaa", sum := "66906f339d682679f74d76968a54a10d4e09bf993fc33503a7dc0dcc217bc7c1", func := "loop.example/quarterdeck/laws.FnPipeOk", spec := "fnPipeOk", apart := false, narrowed := true }
def FnPipeOkUptoSaid : Prop := fnPipeOkUptoRow.holds Try.pinned (OpenSpec.upto fnPipeOkSpec)

/-- 'laws.FnPipeDrain', WHERE WHAT IT READS IS OF BULK AT MOST 1048576: true; the input reads as it did. -/
def fnPipeDrainUptoRow : OpenClaim := { program := "ytkjijijhecbigaa", sum := "66906f339d682679f74d76968a54a10d4e09bf993fc33503a7dc0dcc217bc7c1", func := "loop.example/quarterdeck/laws.FnPipeDrain", spec := "fnPipeDrain", apart := false, narrowed := true }
def FnPipeDrainUptoSaid : Prop := fnPipeDrainUptoRow.holds Try.pinned (OpenSpec.upto fnPipeDrainSpec)

/-- 'laws.FnPipeLeave', WHERE WHAT IT READS IS OF BULK AT MOST 1048576: true; the input reads as it did. -/
def fnPipeLeaveUptoRow : OpenClaim := { program := "ytkjijijhecbigaa", sum := "66906f339d682679f74d76968a54a10d4e09bf993fc33503a7dc0dcc217bc7c1", func := "loop.example/quarterdeck/laws.FnPipeLeave", spec := "fnPipeLeave", apart := false, narrowed := true }
def FnPipeLeaveUptoSaid : Prop := fnPipeLeaveUptoRow.holds Try.pinned (OpenSpec.upto fnPipeLeaveSpec)

/-- 'laws.FnPipeJoin', WHERE WHAT IT READS IS OF BULK AT MOST 1048576: true; the input reads as it did. -/
def fnPipeJoinUptoRow : OpenClaim := { program := "ytkjijijhecbigaa", sum := "66906f339d682679f74d76968a54a10d4e09bf993fc33503a7dc0dcc217bc7c1", func := "loop.example/quarterdeck/laws.FnPipeJoin", spec := "fnPipeJoin", apart := false, narrowed := true }
def FnPipeJoinUptoSaid : Prop := fnPipeJoinUptoRow.holds Try.pinned (OpenSpec.upto fnPipeJoinSpec)

end Rows
end Go.Proofs.Ytkjijijhecbigaa
