-- Written by the kit's printer at the call of wip/tools/xprint.sh (this session's knobs and contracts). Not trusted: Lean checks it.
import Derived.Test.YtdcblmmfomjhcaaProg
import Derived.Below
import Derived.Deep.Draws
import Derived.Deep.AppendLies
import Derived.Maps.AppendAt
import Derived.OwnWalk
import Derived.Laws.BytesArg
import Derived.Laws.MakeOwn
import Derived.Laws.OwnMore
import Derived.Deep.OwnRows
import Derived.Tactics
import Derived.Lib.ConvBytes
import Derived.Laws.Slices
import Derived.WalkKit
import Derived.KernelRfl
import Derived.RowKit3
import Derived.Deep.LoopGhost
import Derived.Deep.QuietTactic
import Derived.BigQuiet
import Derived.WideLaws
import Derived.Deep.DeepCutAuto
import Derived.Deep.CutBlock
import Derived.Deep.RegionHeld3
import Derived.Laws.Rows
import Derived.Lib.AppendStr
import Derived.ArgAppend
import Derived.Laws.IdiomCopy
import Derived.OrdersHeld
import Derived.Laws.BitsLemmas
import Derived.RowKit
import Derived.Test.YtdcblmmfomjhcaaWWords
import Derived.Test.YtdcblmmfomjhcaaWLast
import Derived.Test.YtdcblmmfomjhcaaWTab
import Derived.Test.YtdcblmmfomjhcaaWFour
import Derived.Test.YtdcblmmfomjhcaaWQPut
import Derived.Test.YtdcblmmfomjhcaaWApart
import Derived.Test.YtdcblmmfomjhcaaWArr
import Derived.Test.YtdcblmmfomjhcaaWZeros
import Derived.Test.YtdcblmmfomjhcaaWFoot
import Derived.Test.YtdcblmmfomjhcaaWKept
import Derived.Test.YtdcblmmfomjhcaaWShare
import Derived.Test.YtdcblmmfomjhcaaWN
import Derived.Test.YtdcblmmfomjhcaaWFootNe
import Derived.Test.YtdcblmmfomjhcaaWAt
import Derived.Test.YtdcblmmfomjhcaaWEqStruct
import Derived.Test.YtdcblmmfomjhcaaWRepsOne
import Derived.Test.YtdcblmmfomjhcaaWInv
import Derived.Test.YtdcblmmfomjhcaaWInvWords
import Derived.Test.YtdcblmmfomjhcaaWGuard
import Derived.Test.YtdcblmmfomjhcaaWNEv
import Derived.Test.YtdcblmmfomjhcaaWMore
namespace Go.Proofs.Ytdcblmmfomjhcaa.XFnPipeWhole
open Go.RowKit Go.Proofs.YtdcblmmfomjhcaaW.PrintWords Go.Proofs.YtdcblmmfomjhcaaW.PrintLast Go.Proofs.YtdcblmmfomjhcaaW.PrintMore
attribute [local go_sem] max2_int min2_int max_two min_two max_three min_three max_four min_four   -- for this text's walks alone
set_option linter.unusedVariables false
set_option linter.unusedSimpArgs false



def errW : Option Int → Value
  | none => .nilIface
  | some c => .iface 0 (.int .i64 c)
theorem errW_none : errW none = .nilIface := rfl
theorem errW_some (c : Int) : errW (some c) = .iface 0 (.int .i64 c) := rfl

theorem info3 : (Try.prog.info? 3).map (fun i => (i.zero, i.size, i.bytes)) = some (some (.int .i64 0), 1, 8) := by kernel_rfl
theorem info5 : (Try.prog.info? 5).map (fun i => (i.zero, i.size, i.bytes)) = some (some (.int .u8 0), 1, 1) := by kernel_rfl
-- the values' own types

end Go.Proofs.Ytdcblmmfomjhcaa.XFnPipeWhole
