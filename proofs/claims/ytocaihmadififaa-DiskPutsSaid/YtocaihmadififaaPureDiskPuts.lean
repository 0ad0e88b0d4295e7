/- What stays of one put that waits: the plain law of DiskPuts. -/
import Derived.Test.YtocaihmadififaaWalkDiskPuts
namespace Go.Proofs.Ytocaihmadififaa.Pure
open Go.Proofs.Ytocaihmadififaa.Print Go.Proofs.Ytocaihmadififaa.Dk

theorem DiskPuts : vedettelaw20_DiskPuts.Pure := by
  intro a b keep
  cases h : bitOf keep 0 <;> simp [play, play1, h]

end Go.Proofs.Ytocaihmadififaa.Pure
