-- PRINTED BY print.sh 35421559b90ae4d0a3588c463048766b98c2df88dd9212a6774a882060cdf62d: not written by this session
import Derived.Test.YtjokfjjdachpiaaProg
import Derived.Below
import Derived.Deep.Draws
import Derived.Deep.AppendLies
import Derived.Maps.AppendAt
import Derived.OwnWalk
import Derived.Laws.BytesArg
import Derived.Laws.MakeOwn
import Derived.Laws.OwnMore
import Derived.Deep.OwnRows
import Derived.Tactics
import Derived.Lib.ConvBytes
import Derived.Laws.Slices
import Derived.WalkKit
import Derived.KernelRfl
import Derived.RowKit3
import Derived.Deep.LoopGhost
import Derived.Deep.QuietTactic
import Derived.BigQuiet
import Derived.WideLaws
import Derived.Deep.DeepCutAuto
import Derived.Deep.CutBlock
import Derived.Deep.RegionHeld3
import Derived.Laws.Rows
import Derived.Lib.AppendStr
import Derived.ArgAppend
import Derived.Laws.IdiomCopy
import Derived.OrdersHeld
import Derived.Laws.BitsLemmas
import Derived.RowKit
import Derived.Test.YtjokfjjdachpiaaWWords
import Derived.Test.YtjokfjjdachpiaaWLast
import Derived.Test.YtjokfjjdachpiaaWTab
import Derived.Test.YtjokfjjdachpiaaWFour
import Derived.Test.YtjokfjjdachpiaaWQPut
import Derived.Test.YtjokfjjdachpiaaWApart
import Derived.Test.YtjokfjjdachpiaaWArr
import Derived.Test.YtjokfjjdachpiaaWZeros
import Derived.Test.YtjokfjjdachpiaaWFoot
import Derived.Test.YtjokfjjdachpiaaWKept
import Derived.Test.YtjokfjjdachpiaaWShare
import Derived.Test.YtjokfjjdachpiaaWN
import Derived.Test.YtjokfjjdachpiaaWFootNe
import Derived.Test.YtjokfjjdachpiaaWAt
import Derived.Test.YtjokfjjdachpiaaWEqStruct
import Derived.Test.YtjokfjjdachpiaaWRepsOne
import Derived.Test.YtjokfjjdachpiaaWInv
import Derived.Test.YtjokfjjdachpiaaWInvWords
import Derived.Test.YtjokfjjdachpiaaWGuard
import Derived.Test.YtjokfjjdachpiaaWNEv
import Derived.Test.YtjokfjjdachpiaaWMore
namespace Go.Proofs.Ytjokfjjdachpiaa.PFnExactCredSignal
open Go.RowKit Go.Proofs.YtjokfjjdachpiaaW.PrintWords Go.Proofs.YtjokfjjdachpiaaW.PrintLast Go.Proofs.YtjokfjjdachpiaaW.PrintMore
attribute [local go_sem] max2_int min2_int max_two min_two max_three min_three max_four min_four   -- for this text's walks alone
set_option linter.unusedVariables false
set_option linter.unusedSimpArgs false



def errW : Option Int → Value
  | none => .nilIface
  | some c => .iface 0 (.int .i64 c)
theorem errW_none : errW none = .nilIface := rfl
theorem errW_some (c : Int) : errW (some c) = .iface 0 (.int .i64 c) := rfl

theorem info3 : (Try.prog.info? 3).map (fun i => (i.zero, i.size, i.bytes)) = some (some (.int .i64 0), 1, 8) := by kernel_rfl
-- the values' own types

end Go.Proofs.Ytjokfjjdachpiaa.PFnExactCredSignal
