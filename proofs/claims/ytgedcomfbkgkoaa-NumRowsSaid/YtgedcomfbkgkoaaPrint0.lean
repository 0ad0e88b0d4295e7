/- What functions of the program compute, and that the code does so: written by a program of the session. -/
import Derived.Test.YtgedcomfbkgkoaaMine
import Derived.Test.YtgedcomfbkgkoaaProg
import Derived.Below
import Derived.Deep.Draws
import Derived.Deep.AppendLies
import Derived.Maps.AppendAt
import Derived.OwnWalk
import Derived.Laws.BytesArg
import Derived.Laws.MakeOwn
import Derived.Laws.OwnMore
import Derived.Deep.OwnRows
import Derived.Tactics
import Derived.Lib.ConvBytes
import Derived.Laws.Slices
import Derived.WalkKit
import Derived.KernelRfl
import Derived.RowKit3
import Derived.Deep.LoopGhost
import Derived.Deep.QuietTactic
import Derived.BigQuiet
import Derived.WideLaws
import Derived.Deep.DeepCutAuto
import Derived.Deep.CutBlock
import Derived.Deep.RegionHeld3
import Derived.Laws.Rows
import Derived.Lib.AppendStr
import Derived.ArgAppend
import Derived.Laws.IdiomCopy
import Derived.OrdersHeld
import Derived.Laws.BitsLemmas
import Derived.RowKit
import Derived.WalkMore
import Derived.Test.YtgedcomfbkgkoaaWWords
import Derived.Test.YtgedcomfbkgkoaaWLast
import Derived.Test.YtgedcomfbkgkoaaWTab
import Derived.Test.YtgedcomfbkgkoaaWFour
import Derived.Test.YtgedcomfbkgkoaaWQPut
import Derived.Test.YtgedcomfbkgkoaaWApart
import Derived.Test.YtgedcomfbkgkoaaWArr
import Derived.Test.YtgedcomfbkgkoaaWZeros
import Derived.Test.YtgedcomfbkgkoaaWFoot
import Derived.Test.YtgedcomfbkgkoaaWKept
import Derived.Test.YtgedcomfbkgkoaaWShare
import Derived.Test.YtgedcomfbkgkoaaWN
import Derived.Test.YtgedcomfbkgkoaaWFootNe
import Derived.Test.YtgedcomfbkgkoaaWAt
import Derived.Test.YtgedcomfbkgkoaaWEqStruct
import Derived.Test.YtgedcomfbkgkoaaWRepsOne
import Derived.Test.YtgedcomfbkgkoaaWInv
import Derived.Test.YtgedcomfbkgkoaaWInvWords
import Derived.Test.YtgedcomfbkgkoaaWGuard
import Derived.Test.YtgedcomfbkgkoaaWNEv
import Derived.Test.YtgedcomfbkgkoaaWMore
namespace Go.Proofs.Ytgedcomfbkgkoaa.Print
open Go.RowKit Go.Proofs.YtgedcomfbkgkoaaW.PrintWords Go.Proofs.YtgedcomfbkgkoaaW.PrintLast Go.Proofs.YtgedcomfbkgkoaaW.PrintMore
attribute [local go_sem] max2_int min2_int max_two min_two max_three min_three max_four min_four   -- for this text's walks alone
set_option linter.unusedVariables false
set_option linter.unusedSimpArgs false



def errW : Option Int → Value
  | none => .nilIface
  | some c => .iface 0 (.int .i64 c)
theorem errW_none : errW none = .nilIface := rfl
theorem errW_some (c : Int) : errW (some c) = .iface 0 (.int .i64 c) := rfl

theorem info5 : (Try.prog.info? 5).map (fun i => (i.zero, i.size, i.bytes)) = some (some (.int .u8 0), 1, 1) := by kernel_rfl
-- the values' own types

end Go.Proofs.Ytgedcomfbkgkoaa.Print
