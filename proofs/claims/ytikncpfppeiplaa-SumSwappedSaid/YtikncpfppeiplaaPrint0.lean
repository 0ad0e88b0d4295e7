/- What functions of the program compute, and that the code does so: written by a program of the session. -/
import Derived.Test.YtikncpfppeiplaaMine
import Derived.Test.YtikncpfppeiplaaProg
import Derived.Below
import Derived.Deep.Draws
import Derived.Deep.AppendLies
import Derived.Maps.AppendAt
import Derived.OwnWalk
import Derived.Laws.BytesArg
import Derived.Laws.MakeOwn
import Derived.Laws.OwnMore
import Derived.Deep.OwnRows
import Derived.Tactics
import Derived.Lib.ConvBytes
import Derived.Laws.Slices
import Derived.WalkKit
import Derived.KernelRfl
import Derived.RowKit3
import Derived.Deep.LoopGhost
import Derived.Deep.QuietTactic
import Derived.BigQuiet
import Derived.WideLaws
import Derived.Deep.DeepCutAuto
import Derived.Deep.CutBlock
import Derived.Deep.RegionHeld3
import Derived.Laws.Rows
import Derived.Lib.AppendStr
import Derived.ArgAppend
import Derived.Laws.IdiomCopy
import Derived.OrdersHeld
import Derived.Laws.BitsLemmas
import Derived.RowKit
import Derived.WalkMore
import Derived.Test.YtikncpfppeiplaaWWords
import Derived.Test.YtikncpfppeiplaaWLast
import Derived.Test.YtikncpfppeiplaaWTab
import Derived.Test.YtikncpfppeiplaaWFour
import Derived.Test.YtikncpfppeiplaaWQPut
import Derived.Test.YtikncpfppeiplaaWApart
import Derived.Test.YtikncpfppeiplaaWArr
import Derived.Test.YtikncpfppeiplaaWZeros
import Derived.Test.YtikncpfppeiplaaWFoot
import Derived.Test.YtikncpfppeiplaaWKept
import Derived.Test.YtikncpfppeiplaaWShare
import Derived.Test.YtikncpfppeiplaaWN
import Derived.Test.YtikncpfppeiplaaWFootNe
import Derived.Test.YtikncpfppeiplaaWAt
import Derived.Test.YtikncpfppeiplaaWEqStruct
import Derived.Test.YtikncpfppeiplaaWRepsOne
import Derived.Test.YtikncpfppeiplaaWInv
import Derived.Test.YtikncpfppeiplaaWInvWords
import Derived.Test.YtikncpfppeiplaaWGuard
import Derived.Test.YtikncpfppeiplaaWNEv
import Derived.Test.YtikncpfppeiplaaWMore
namespace Go.Proofs.Ytikncpfppeiplaa.Print
open Go.RowKit Go.Proofs.YtikncpfppeiplaaW.PrintWords Go.Proofs.YtikncpfppeiplaaW.PrintLast Go.Proofs.YtikncpfppeiplaaW.PrintMore
attribute [local go_sem] max2_int min2_int max_two min_two max_three min_three max_four min_four   -- for this text's walks alone
set_option linter.unusedVariables false
set_option linter.unusedSimpArgs false



def errW : Option Int → Value
  | none => .nilIface
  | some c => .iface 0 (.int .i64 c)
theorem errW_none : errW none = .nilIface := rfl
theorem errW_some (c : Int) : errW (some c) = .iface 0 (.int .i64 c) := rfl

theorem info5 : (Try.prog.info? 5).map (fun i => (i.zero, i.size, i.bytes)) = some (some (.int .u8 0), 1, 1) := by kernel_rfl
-- the values' own types

end Go.Proofs.Ytikncpfppeiplaa.Print
