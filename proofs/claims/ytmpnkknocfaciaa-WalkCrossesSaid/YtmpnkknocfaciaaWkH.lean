/- A walk's Any: walked. No condition. -/
import Derived.Test.YtmpnkknocfaciaaWkEG
import Derived.Test.YtmpnkknocfaciaaWkF
import Derived.Test.YtmpnkknocfaciaaBld10
namespace Go.Proofs.Ytmpnkknocfaciaa
open Go.RowKit
set_option maxRecDepth 100000
set_option maxHeartbeats 1000000
attribute [local irreducible] Calls Walk1 WalkTo Tri EndA
end Go.Proofs.Ytmpnkknocfaciaa
