/- Short names for what the printed rows say most often. -/
import Derived.Test.YtpljcphiaajjaaaXFnExactFsOkx0
namespace Go.Proofs.Ytpljcphiaajjaaa.XFnExactFsOk
open Go.RowKit Go.Proofs.YtpljcphiaajjaaaW.PrintWords Go.Proofs.YtpljcphiaajjaaaW.PrintLast Go.Proofs.YtpljcphiaajjaaaW.PrintMore
theorem bc_ {w w' : World} {a : Addr} {v : Value} (hB : Aside0 (Below w.heap.size w w')) (h : w.cell? a = some v) : w'.cell? a = some v := (hB.out.cell (World.block_lt_of_cell? w _ h)).trans h
theorem yE {w : World} {a b c : Nat} : (w.drewN (a + b)).drewN c = w.drewN (a + (b + c)) := Eq.trans (World.drewN_drewN _ _ _) (congrArg (World.drewN _) (Nat.add_assoc _ _ _))
abbrev zN := @blk_drewN
abbrev zD := @blk_drew
abbrev zA := @blk_alloc
abbrev yN := @pw_below_drewN
abbrev yA := @below_alloc
abbrev yD := @below_drew1
abbrev yS := @below_set
abbrev zW := @World.drewN_drewN
abbrev od_ := @of_decide_eq_true
end Go.Proofs.Ytpljcphiaajjaaa.XFnExactFsOk
