/- What a walk's Any reckons: plain. No condition. A walk's Nearest: walked. No condition. A walk's Any: walked. No condition. -/
import Derived.Test.YtcgmapioelfneaaMgWkE
import Derived.Test.YtcgmapioelfneaaMgWkC
namespace Go.Proofs.Ytcgmapioelfneaa
open Go.RowKit
set_option maxRecDepth 100000
set_option maxHeartbeats 1000000
def hitA (l : List TriS) (o d : P3) (mask : BitVec 8) (skip : Int) (near : Bool) (k : Nat) : Bool := match l[k]? with
  | some t => (meetW o d mask skip k t).2 && (!near || decide ((meetW o d mask skip k t).1.num < (meetW o d mask skip k t).1.det))
  | none => false
def lookA (l : List TriS) (o d : P3) (mask : BitVec 8) (skip : Int) (near : Bool) (s : Nat × Bool) (k : Nat) : Nat × Bool := if s.2 = true then s else (s.1 + 1, hitA l o d mask skip near k)
def Tr.visA (l : List TriS) (K : List Nat) (o d : P3) (mask : BitVec 8) (skip : Int) (near : Bool) : Tr → Nat × Bool → Nat × Bool
  | .leaf _ f c lo hi, s => if s.2 = true then s else if (spanP lo hi o d).2 = false then (s.1 + 1, false) else ((K.drop f).take c).foldl (lookA l o d mask skip near) (s.1 + 1, false)
  | .node _ lo hi L R, s => if s.2 = true then s else if (spanP lo hi o d).2 = false then (s.1 + 1, false) else R.visA l K o d mask skip near (L.visA l K o d mask skip near (s.1 + 1, false))
end Go.Proofs.Ytcgmapioelfneaa
namespace Go.Proofs.Ytcgmapioelfneaa
open Go.RowKit
set_option maxRecDepth 100000
set_option maxHeartbeats 1000000
attribute [local irreducible] Calls Walk1 WalkTo Tri EndA
end Go.Proofs.Ytcgmapioelfneaa
namespace Go.Proofs.Ytcgmapioelfneaa
open Go.RowKit
set_option maxRecDepth 100000
set_option maxHeartbeats 1000000
attribute [local irreducible] Calls Walk1 WalkTo Tri EndA
end Go.Proofs.Ytcgmapioelfneaa
