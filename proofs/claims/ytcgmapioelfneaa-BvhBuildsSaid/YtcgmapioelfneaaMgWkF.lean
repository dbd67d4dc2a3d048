/- A walk's Nearest: walked. No condition. A walk's Any: walked. No condition. A walk's questions: those it does not look into; as methods of an object. No condition. -/
import Derived.Test.YtcgmapioelfneaaMgWkC
import Derived.Test.YtcgmapioelfneaaMgWkA
import Derived.Test.YtcgmapioelfneaaMgBld10
import Derived.Test.YtcgmapioelfneaaMgBvs5
namespace Go.Proofs.Ytcgmapioelfneaa
open Go.RowKit
set_option maxRecDepth 100000
set_option maxHeartbeats 1000000
attribute [local irreducible] Calls Walk1 WalkTo Tri EndA
end Go.Proofs.Ytcgmapioelfneaa
namespace Go.Proofs.Ytcgmapioelfneaa
open Go.RowKit
set_option maxRecDepth 100000
set_option maxHeartbeats 1000000
attribute [local irreducible] Calls Walk1 WalkTo Tri EndA
end Go.Proofs.Ytcgmapioelfneaa
namespace Go.Proofs.Ytcgmapioelfneaa
open Go.RowKit
set_option maxRecDepth 100000
set_option maxHeartbeats 1000000
attribute [local irreducible] Calls Walk1 WalkTo Tri EndA
/-- The nodes and the order are a tree's, or there are none. -/
structure TreeS (l : List TriS) (N : List NodeS) (K : List Nat) (T : Option Tr) : Prop where
  ok : ∀ t ∈ l, t.ok
  tr : ∀ t, T = some t → t.In N K ∧ t.ix = 0
  no : T = none → N.length = 0
  box : ∀ x ∈ N, smP x.lo ∧ smP x.hi
  nl : N.length ≤ 1000000
  kl : K.length ≤ 1000000
  dom : ∀ k ∈ K, k < l.length
def costT (T : Option Tr) : Nat := match T with
  | none => 0
  | some t => t.cost
def nearW (T : Option Tr) (l : List TriS) (K : List Nat) (o d : P3) (mask : BitVec 8) (skip : Int) (n : Nat) : WSt := if mayP o d = true then (match T with
  | none => ⟨n, -1, zM⟩
  | some t => t.vis l K o d mask skip ⟨n, -1, zM⟩) else ⟨n, -1, zM⟩
def anyW (T : Option Tr) (l : List TriS) (K : List Nat) (o d : P3) (mask : BitVec 8) (skip : Int) (near : Bool) (n : Nat) : Nat × Bool := if mayP o d = true then (match T with
  | none => (n, false)
  | some t => t.visA l K o d mask skip near (n, false)) else (n, false)
end Go.Proofs.Ytcgmapioelfneaa
