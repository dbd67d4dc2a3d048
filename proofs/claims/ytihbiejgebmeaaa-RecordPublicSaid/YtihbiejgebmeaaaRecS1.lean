/- The document's sum of bytes: walked. No condition. -/
import Derived.Test.YtihbiejgebmeaaaSha2b
import Derived.Test.YtihbiejgebmeaaaShaDF
namespace Go.Proofs.Ytihbiejgebmeaaa
open Go.RowKit
set_option maxRecDepth 100000
set_option maxHeartbeats 4000000
attribute [local irreducible] Calls Walk1 WalkTo Tri EndA
end Go.Proofs.Ytihbiejgebmeaaa
