/- What stays of a row of appends is a beginning of it: the plain law of DiskKeeps. -/
import Derived.Test.YtocaihmadififaaWalkDiskKeeps
namespace Go.Proofs.Ytocaihmadififaa.Pure
open Go.Proofs.Ytocaihmadififaa.Print Go.Proofs.Ytocaihmadififaa.Dk

theorem DiskKeeps : vedettelaw20_DiskKeeps.Pure := fun keep l m => play_pre keep l 0 m false

end Go.Proofs.Ytocaihmadififaa.Pure
