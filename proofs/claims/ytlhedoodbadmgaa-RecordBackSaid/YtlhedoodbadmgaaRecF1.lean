/- Sums read byte by byte and at once: in plain. No condition. -/
import Derived.Test.YtlhedoodbadmgaaRecE0
namespace Go.Proofs.Ytlhedoodbadmgaa
open Go.RowKit
set_option maxRecDepth 100000
set_option maxHeartbeats 1000000
/-- What is left behind so many bytes that are read one by one. -/
def bseq : Nat → RdS → RdS
  | 0, a => a
  | n + 1, a => nextR 1 (bseq n a)
def byteR (i : Nat) (a : RdS) : BitVec 8 := (numR 1 (bseq i a)).setWidth 8
/-- Bytes put one by one into a row. -/
def putB (a : RdS) : Nat → List (BitVec 8) → List (BitVec 8)
  | 0, l => l
  | n + 1, l => (putB a n l).set n (byteR n a)
attribute [local irreducible] putB
end Go.Proofs.Ytlhedoodbadmgaa
