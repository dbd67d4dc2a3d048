/- A record made, by the document: walked. No condition. -/
import Derived.Test.YtihbiejgebmeaaaRecM7
import Derived.Test.YtihbiejgebmeaaaRecMCD
import Derived.Test.YtihbiejgebmeaaaRecS1
import Derived.Test.YtihbiejgebmeaaaRec7
namespace Go.Proofs.Ytihbiejgebmeaaa
open Go.RowKit
set_option maxRecDepth 100000
set_option maxHeartbeats 4000000
attribute [local irreducible] Calls Walk1 WalkTo Tri EndA
end Go.Proofs.Ytihbiejgebmeaaa
