/- Views held against each other. No condition. Two records held equal, by the document: walked. No condition. -/
import Derived.Test.YtihbiejgebmeaaaRecP
import Derived.Laws.StructEq
import Derived.Test.YtihbiejgebmeaaaRecAB
namespace Go.Proofs.Ytihbiejgebmeaaa
open Go.RowKit
set_option maxRecDepth 100000
theorem eqSum_run (x y : List (BitVec 8)) (hx : x.length = 32) (hy : y.length = 32) (w : World) : (Op.equalIn 10000 44 (.agg (vals .u8 x)) (.agg (vals .u8 y))).run Try.prog w = .ok (x == y) w :=
  run_equalIn_arr w 9998 44 5 32 8 .u8 .u8 Try.underlying44 Try.underlying5 (by kernel_rfl) x y hx hy
end Go.Proofs.Ytihbiejgebmeaaa
namespace Go.Proofs.Ytihbiejgebmeaaa
open Go.RowKit
set_option maxRecDepth 100000
set_option maxHeartbeats 4000000
attribute [local irreducible] Calls Walk1 WalkTo Tri EndA
end Go.Proofs.Ytihbiejgebmeaaa
