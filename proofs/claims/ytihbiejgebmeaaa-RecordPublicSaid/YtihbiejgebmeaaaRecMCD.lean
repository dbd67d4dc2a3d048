/- The document's writer of a scene's numbers: walked. No condition. A scene written, by the document: walked. No condition. -/
import Derived.Test.YtihbiejgebmeaaaRecM0
import Derived.Test.YtihbiejgebmeaaaChnCF
import Derived.Test.YtihbiejgebmeaaaSymAGJ
import Derived.Test.YtihbiejgebmeaaaRecM2
namespace Go.Proofs.Ytihbiejgebmeaaa
open Go.RowKit
set_option maxRecDepth 100000
set_option maxHeartbeats 1000000
attribute [local irreducible] Calls Walk1 WalkTo Tri EndA
end Go.Proofs.Ytihbiejgebmeaaa
namespace Go.Proofs.Ytihbiejgebmeaaa
open Go.RowKit
set_option maxRecDepth 100000
set_option maxHeartbeats 4000000
attribute [local irreducible] Calls Walk1 WalkTo Tri EndA
end Go.Proofs.Ytihbiejgebmeaaa
