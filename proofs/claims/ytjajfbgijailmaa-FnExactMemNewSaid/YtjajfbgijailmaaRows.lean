/-
  No cell of these rows narrows 'for every input' (looked for: loops, veiled, ifaces, maps, wideKeys, modest, calm, conditions, laid).
  DERIVED. THE GIVEN ROWS OF THIS SEAT. 6 by the template 'for every input the law returns true; each argument reads behind the call as it read before'; 0 by the template 'total and deterministic' (their statements: YtjajfbgijailmaaTotals.lean).
  GIVEN WITH THE SEED: the statements are not yours to turn. If you find one false, say at which input.
  Laid BY PROGRAM, IN A SANDBOX (cutbox-rows.mjs): the forced cells as the released guide's own fill.sh prints them over the translation 1deafc57e8407d67… (all of the seat's roots in one cut). By AI agents, Wed Nov 11 2026. No macro, syntax, notation, axiom, sorry.
-/
import Derived.Test.YtjajfbgijailmaaChecked
import GoSem.Claim
import GoSem.ClaimJoined
import GoSem.ClaimMapViews
import Derived.JoinedTies
import Derived.KernelRfl
namespace Go.Proofs.Ytjajfbgijailmaa
/- THE CELL 'sum', in the pinned program and in every row, IS THE sha256 OF THE DUMP (.gsa) THAT YtjajfbgijailmaaProg.lean LOADS. Nothing in Lean hashes anything: it is a label: what it is worth is what the hold of that sum in a sandbox is worth. -/
noncomputable def Try.pinned : Pinned := { name := "ytjajfbgijailmaa", sum := "1deafc57e8407d67962c67e82552ac81b75455bfe1a5af8f90be1cfdf671e6bf", checked := Try.checked }
namespace Rows
def none {H : Type} : Left H := { results := [], args := [] }

/-- 'laws.FnExactQueueOk': WHATEVER THE INPUT: true; the input reads as it did. -/
def fnExactQueueOkSpec : ChangeSpec := { name := "fnExactQueueOk", fn := fun _ => fun
  | [d] => { results := [.lit (.bool true)], args := [d] }
  | _ => none }
def fnExactQueueOkRow : OpenClaim := { program := "ytjajfbgijailmaa", sum := "1deafc57e8407d67962c67e82552ac81b75455bfe1a5af8f90be1cfdf671e6bf", func := "loop.example/quarterdeck/laws.FnExactQueueOk", spec := "fnExactQueueOk", apart := false }
def FnExactQueueOkSaid : Prop := fnExactQueueOkRow.holds Try.pinned (OpenSpec.ofChange fnExactQueueOkSpec)

/-- ITS FALSE NEIGHBOUR: 'it returns false'. Refute it at one input. -/
def fnExactQueueOkWrong : ChangeSpec := { name := "fnExactQueueOk", fn := fun _ => fun
  | [d] => { results := [.lit (.bool false)], args := [d] }
  | _ => none }
def FnExactQueueOkWrongFalsely : Prop := fnExactQueueOkRow.holds Try.pinned (OpenSpec.ofChange fnExactQueueOkWrong)

/-- 'laws.FnExactQueueNext': WHATEVER THE INPUT: true; the input reads as it did. -/
def fnExactQueueNextSpec : ChangeSpec := { name := "fnExactQueueNext", fn := fun _ => fun
  | [d] => { results := [.lit (.bool true)], args := [d] }
  | _ => none }
def fnExactQueueNextRow : OpenClaim := { program := "ytjajfbgijailmaa", sum := "1deafc57e8407d67962c67e82552ac81b75455bfe1a5af8f90be1cfdf671e6bf", func := "loop.example/quarterdeck/laws.FnExactQueueNext", spec := "fnExactQueueNext", apart := false }
def FnExactQueueNextSaid : Prop := fnExactQueueNextRow.holds Try.pinned (OpenSpec.ofChange fnExactQueueNextSpec)

/-- ITS FALSE NEIGHBOUR: 'it returns false'. Refute it at one input. -/
def fnExactQueueNextWrong : ChangeSpec := { name := "fnExactQueueNext", fn := fun _ => fun
  | [d] => { results := [.lit (.bool false)], args := [d] }
  | _ => none }
def FnExactQueueNextWrongFalsely : Prop := fnExactQueueNextRow.holds Try.pinned (OpenSpec.ofChange fnExactQueueNextWrong)

/-- 'laws.FnQueueNext': WHATEVER THE INPUT: true; the input reads as it did. -/
def fnQueueNextSpec : ChangeSpec := { name := "fnQueueNext", fn := fun _ => fun
  | [d] => { results := [.lit (.bool true)], args := [d] }
  | _ => none }
def fnQueueNextRow : OpenClaim := { program := "ytjajfbgijailmaa", sum := "1deafc57e8407d67962c67e82552ac81b75455bfe1a5af8f90be1cfdf671e6bf", func := "loop.example/quarterdeck/laws.FnQueueNext", spec := "fnQueueNext", apart := false }
def FnQueueNextSaid : Prop := fnQueueNextRow.holds Try.pinned (OpenSpec.ofChange fnQueueNextSpec)

/-- ITS FALSE NEIGHBOUR: 'it returns false'. Refute it at one input. -/
def fnQueueNextWrong : ChangeSpec := { name := "fnQueueNext", fn := fun _ => fun
  | [d] => { results := [.lit (.bool false)], args := [d] }
  | _ => none }
def FnQueueNextWrongFalsely : Prop := fnQueueNextRow.holds Try.pinned (OpenSpec.ofChange fnQueueNextWrong)

/-- 'laws.FnExactPagesRoom': WHATEVER THE INPUT: true; the input reads as it did. -/
def fnExactPagesRoomSpec : ChangeSpec := { name := "fnExactPagesRoom", fn := fun _ => fun
  | [d] => { results := [.lit (.bool true)], args := [d] }
  | _ => none }
def fnExactPagesRoomRow : OpenClaim := { program := "ytjajfbgijailmaa", sum := "1deafc57e8407d67962c67e82552ac81b75455bfe1a5af8f90be1cfdf671e6bf", func := "loop.example/quarterdeck/laws.FnExactPagesRoom", spec := "fnExactPagesRoom", apart := false }
def FnExactPagesRoomSaid : Prop := fnExactPagesRoomRow.holds Try.pinned (OpenSpec.ofChange fnExactPagesRoomSpec)

/-- ITS FALSE NEIGHBOUR: 'it returns false'. Refute it at one input. -/
def fnExactPagesRoomWrong : ChangeSpec := { name := "fnExactPagesRoom", fn := fun _ => fun
  | [d] => { results := [.lit (.bool false)], args := [d] }
  | _ => none }
def FnExactPagesRoomWrongFalsely : Prop := fnExactPagesRoomRow.holds Try.pinned (OpenSpec.ofChange fnExactPagesRoomWrong)

/-- 'laws.FnExactMemNew': WHATEVER THE INPUT: true; the input reads as it did. -/
def fnExactMemNewSpec : ChangeSpec := { name := "fnExactMemNew", fn := fun _ => fun
  | [] => { results := [.lit (.bool true)], args := [] }
  | _ => none }
def fnExactMemNewRow : OpenClaim := { program := "ytjajfbgijailmaa", sum := "1deafc57e8407d67962c67e82552ac81b75455bfe1a5af8f90be1cfdf671e6bf", func := "loop.example/quarterdeck/laws.FnExactMemNew", spec := "fnExactMemNew", apart := false }
def FnExactMemNewSaid : Prop := fnExactMemNewRow.holds Try.pinned (OpenSpec.ofChange fnExactMemNewSpec)

/-- ITS FALSE NEIGHBOUR: 'it returns false'. Refute it at one input. -/
def fnExactMemNewWrong : ChangeSpec := { name := "fnExactMemNew", fn := fun _ => fun
  | [] => { results := [.lit (.bool false)], args := [] }
  | _ => none }
def FnExactMemNewWrongFalsely : Prop := fnExactMemNewRow.holds Try.pinned (OpenSpec.ofChange fnExactMemNewWrong)

/-- 'laws.FnExactFsNew': WHATEVER THE INPUT: true; the input reads as it did. -/
def fnExactFsNewSpec : ChangeSpec := { name := "fnExactFsNew", fn := fun _ => fun
  | [d1, d2] => { results := [.lit (.bool true)], args := [d1, d2] }
  | _ => none }
def fnExactFsNewRow : OpenClaim := { program := "ytjajfbgijailmaa", sum := "1deafc57e8407d67962c67e82552ac81b75455bfe1a5af8f90be1cfdf671e6bf", func := "loop.example/quarterdeck/laws.FnExactFsNew", spec := "fnExactFsNew", apart := false }
def FnExactFsNewSaid : Prop := fnExactFsNewRow.holds Try.pinned (OpenSpec.ofChange fnExactFsNewSpec)

/-- ITS FALSE NEIGHBOUR: 'it returns false'. Refute it at one input. -/
def fnExactFsNewWrong : ChangeSpec := { name := "fnExactFsNew", fn := fun _ => fun
  | [d1, d2] => { results := [.lit (.bool false)], args := [d1, d2] }
  | _ => none }
def FnExactFsNewWrongFalsely : Prop := fnExactFsNewRow.holds Try.pinned (OpenSpec.ofChange fnExactFsNewWrong)

/- THE SECOND FORM. 'bulk': how many values and letters a reading holds, each counted each time it is reached (what is shared counts as often as it is met; a slice's spare places count too). A statement '..UptoSaid' is the law's where the arguments, and the package variables that the reading takes, are together of bulk at most 1048576: NARROWER than '..Said'. Prove '..Said' where nothing that the law and all that it calls make is longer than what came in: it says more and counts as full. Else prove '..UptoSaid'. A law counts once. -/
mutual
def uptoBulk {H : Type} : DataW H → Nat
  | .lit (.string bytes) => bytes.length + 1
  | .lit _ => 1
  | .nil => 1
  | .ptr d => uptoBulk d + 1
  | .slice elems spare => uptoBulkAll elems + uptoBulkAll spare + 1
  | .agg parts => uptoBulkAll parts + 1
  | .iface _ d => uptoBulk d + 1
  | .map entries => uptoBulkEntries entries + 1
  | .held _ => 1
def uptoBulkAll {H : Type} : List (DataW H) → Nat
  | [] => 0
  | d :: r => uptoBulk d + uptoBulkAll r
def uptoBulkEntries {H : Type} : List (Lit × DataW H) → Nat
  | [] => 0
  | x :: r => uptoBulkEntry x + uptoBulkEntries r
def uptoBulkEntry {H : Type} : Lit × DataW H → Nat
  | (.string bytes, d) => bytes.length + uptoBulk d + 1
  | (_, d) => uptoBulk d + 1
 end
def uptoSmall : (H : Type) → List (DataW H) → Bool := fun _ ds => decide (uptoBulkAll ds ≤ 1048576)
def OpenSpec.upto (s : _root_.Go.ChangeSpec) : _root_.Go.OpenSpec := { _root_.Go.OpenSpec.ofChange s with cond := some uptoSmall }

/-- 'laws.FnExactQueueOk', WHERE WHAT IT READS IS OF BULK AT MOST 1048576: true; the input reads as it did. -/
def fnExactQueueOkUptoRow : OpenClaim := { program := "ytjajfbgijailmaa", sum := "1deafc57e8407d67962c67e82552ac81b75455bfe1a5af8f90be1cfdf671e6bf", func := "loop.example/quarterdeck/laws.FnExactQueueOk", spec := "fnExactQueueOk", apart := false, narrowed := true }
def FnExactQueueOkUptoSaid : Prop := fnExactQueueOkUptoRow.holds Try.pinned (OpenSpec.upto fnExactQueueOkSpec)

/-- 'laws.FnExactQueueNext', WHERE WHAT IT READS IS OF BULK AT MOST 1048576: true; the input reads as it did. -/
def fnExactQueueNextUptoRow : OpenClaim := { program := "ytjajfbgijailmaa", sum := "1deafc57e8407d67962c67e82552ac81b75455bfe1a5af8f90be1cfdf671e6bf", func := "loop.example/quarterdeck/laws.FnExactQueueNext", spec := "fnExactQueueNext", apart := false, narrowed := true }
def FnExactQueueNextUptoSaid : Prop := fnExactQueueNextUptoRow.holds Try.pinned (OpenSpec.upto fnExactQueueNextSpec)

/-- 'laws.FnQueueNext', WHERE WHAT IT READS IS OF BULK AT MOST 1048576: true; the input reads as it did. -/
def fnQueueNextUptoRow : OpenClaim := { program := "ytjajfbgijailmaa", sum := "1deafc57e8407d67962c67e82552ac81b75455bfe1a5af8f90be1cfdf671e6bf", func := "loop.example/quarterdeck/laws.FnQueueNext", spec := "fnQueueNext", apart := false, narrowed := true }
def FnQueueNextUptoSaid : Prop := fnQueueNextUptoRow.holds Try.pinned (OpenSpec.upto fnQueueNextSpec)

/-- 'laws.FnExactPagesRoom', WHERE WHAT IT READS IS OF BULK AT MOST 1048576: true; the input reads as it did. -/
def fnExactPagesRoomUptoRow : OpenClaim := { program := "ytjajfbgijailmaa", sum := "1deafc57e8407d67962c67e82552ac81b75455bfe1a5af8f90be1cfdf671e6bf", func := "loop.example/quarterdeck/laws.FnExactPagesRoom", spec := "fnExactPagesRoom", apart := false, narrowed := true }
def FnExactPagesRoomUptoSaid : Prop := fnExactPagesRoomUptoRow.holds Try.pinned (OpenSpec.upto fnExactPagesRoomSpec)

/-- 'laws.FnExactMemNew', WHERE WHAT IT READS IS OF BULK AT MOST 1048576: true; the input reads as it did. -/
def fnExactMemNewUptoRow : OpenClaim := { program := "ytjajfbgijailmaa", sum := "1deafc57e8407d67962c67e82552ac81b75455bfe1a5af8f90be1cfdf671e6bf", func := "loop.example/quarterdeck/laws.FnExactMemNew", spec := "fnExactMemNew", apart := false, narrowed := true }
def FnExactMemNewUptoSaid : Prop := fnExactMemNewUptoRow.holds Try.pinned (OpenSpec.upto fnExactMemNewSpec)

/-- 'laws.FnExactFsNew', WHERE WHAT IT READS IS OF BULK AT MOST 1048576: true; the input reads as it did. -/
def fnExactFsNewUptoRow : OpenClaim := { program := "ytjajfbgijailmaa", sum := "1deafc57e8407d67962c67e82552ac81b75455bfe1a5af8f90be1cfdf671e6bf", func := "loop.example/quarterdeck/laws.FnExactFsNew", spec := "fnExactFsNew", apart := false, narrowed := true }
def FnExactFsNewUptoSaid : Prop := fnExactFsNewUptoRow.holds Try.pinned (OpenSpec.upto fnExactFsNewSpec)

end Rows
end Go.Proofs.Ytjajfbgijailmaa
