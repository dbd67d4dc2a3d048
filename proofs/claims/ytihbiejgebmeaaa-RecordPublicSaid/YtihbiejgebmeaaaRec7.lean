/- Whether a record may be, by the document: walked. No condition. -/
import Derived.Test.YtihbiejgebmeaaaRecP
namespace Go.Proofs.Ytihbiejgebmeaaa
open Go.RowKit
set_option maxRecDepth 100000
set_option maxHeartbeats 4000000
attribute [local irreducible] Calls Walk1 WalkTo Tri EndA
end Go.Proofs.Ytihbiejgebmeaaa
