/- Poly1305 in plain numbers. No condition. Which one comes first: products of 128 bits, compared: the program's and the document's: walked. No condition. Which meeting comes first: the program's and the document's: walked. No condition. A sweep: the nearest one, any one: walked. No condition. -/
import Derived.Test.YtcgmapioelfneaaSymC
import Derived.Test.YtcgmapioelfneaaMgSymY
import Derived.Test.YtcgmapioelfneaaMgSwp7
namespace Go.Proofs.Ytcgmapioelfneaa
open Go.RowKit
set_option maxRecDepth 100000
/-! ### bytes as a number -/
/-! ### sums and products of 64 bits -/
/-! ### the state of three numbers -/
end Go.Proofs.Ytcgmapioelfneaa
namespace Go.Proofs.Ytcgmapioelfneaa
open Go.RowKit
set_option maxRecDepth 100000
set_option maxHeartbeats 2000000
attribute [local irreducible] Calls Walk1 WalkTo Tri EndA
end Go.Proofs.Ytcgmapioelfneaa
namespace Go.Proofs.Ytcgmapioelfneaa
open Go.RowKit
set_option maxRecDepth 100000
set_option maxHeartbeats 2000000
def lessM (a b : M4) : Bool := decide (0 < a.det) && (decide (0 < b.det) && decide (a.num * b.det < b.num * a.det))
attribute [local irreducible] Calls Walk1 WalkTo Tri EndA
end Go.Proofs.Ytcgmapioelfneaa
namespace Go.Proofs.Ytcgmapioelfneaa
open Go.RowKit
set_option maxRecDepth 100000
set_option maxHeartbeats 2000000
def nearS (l : List TriS) (o d : P3) (mask : BitVec 8) (skip : Int) : Nat → Int × M4
  | 0 => (-1, zM)
  | j + 1 => match l[j]? with
    | some t => if ((meetM o d mask skip j t).2 && (decide ((nearS l o d mask skip j).1 < 0) || lessM (meetM o d mask skip j t).1 (nearS l o d mask skip j).2)) = true then ((j : Int), (meetM o d mask skip j t).1) else nearS l o d mask skip j
    | none => nearS l o d mask skip j
def anyS (l : List TriS) (o d : P3) (mask : BitVec 8) (skip : Int) (near : Bool) : Nat → Bool
  | 0 => false
  | j + 1 => match l[j]? with
    | some t => if ((meetM o d mask skip j t).2 && (!near || decide ((meetM o d mask skip j t).1.num < (meetM o d mask skip j t).1.det))) = true then true else anyS l o d mask skip near j
    | none => anyS l o d mask skip near j
attribute [local irreducible] Calls Walk1 WalkTo Tri EndA
end Go.Proofs.Ytcgmapioelfneaa
