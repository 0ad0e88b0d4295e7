/- The known answers of sums and frames: a closed reckoning. -/
import Derived.Test.YtikncpfppeiplaaSumB
import Derived.Test.YtikncpfppeiplaaPrint2
import Derived.Test.YtikncpfppeiplaaPrint3
namespace Go.Proofs.Ytikncpfppeiplaa.Num
open Go.RowKit Go.Proofs.YtikncpfppeiplaaW.PrintWords Go.Proofs.YtikncpfppeiplaaW.PrintMore Go.Proofs.Ytikncpfppeiplaa.Print

theorem sum_known_f (k : Nat) (hk : 12 ≤ k) : vedettelaw2_known.f k = some true := by
  have h : vedettelaw2_known.f 12 = some true := by decide +kernel
  exact at_rounds (g := fun k => vedettelaw2_known.f k) (fun k => vedettelaw2_known.mono k) hk h
end Go.Proofs.Ytikncpfppeiplaa.Num
