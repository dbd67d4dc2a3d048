/- A sweep: what it looks at: walked. No condition. Poly1305 in plain numbers. No condition. Which one comes first: products of 128 bits, compared: the program's and the document's: walked. No condition. Which meeting comes first: the program's and the document's: walked. No condition. -/
import Derived.Test.YtcgmapioelfneaaMgSymY
import Derived.Test.YtcgmapioelfneaaSymX
import Derived.Test.YtcgmapioelfneaaSymC
namespace Go.Proofs.Ytcgmapioelfneaa
open Go.RowKit
set_option maxRecDepth 100000
set_option maxHeartbeats 2000000
theorem op_loadsQ {C : Ctx} {ops : Array Oper} {S : St} {o : Oper} {ty : TypeId} {x : Operand} {n off len sz m : Nat} {T0 : TypeId} {xs B : List Value} {d : TypeDesc} (ho : o.op = .load ty x) (hg : o.guard = none) (hd : dstB o.dst C.nt = true) (hx : S.ev x = some (.vp n off)) (hr : S.res n = some (.own n T0 sz len xs)) (hu' : tabLook undT ty = some d) (hda : d.isRow = true) (hi' : tabLook sizT ty = some m) (hm : 0 < m) (hb : off + m ≤ xs.length) (hB : (xs.drop off).take m = B) :
    OpG C Try.prog ops o S ⟨opT x, [n], dw o.dst (.c (.agg B.toArray)), [], []⟩ :=
  op_loadsV ho hg hd hx hr hu' hda hi' hm hb (by rw [hB])
/-- A triangle. -/
structure TriS where
  p0 : P3
  p1 : P3
  p2 : P3
  rest : List Value
  mask : BitVec 8
def TriS.ok (t : TriS) : Prop := t.rest.length = 9 ∧ ∀ u ∈ t.rest, u.oneCell' = true
def triC (t : TriS) : List Value := (P9 t.p0 t.p1 t.p2).toList ++ (t.rest ++ [.int .u8 (bvi t.mask)])
def trisC (l : List TriS) : List Value := l.flatMap triC
theorem triC_length (t : TriS) (h : t.ok) : (triC t).length = 19 := by
  rw [triC, List.length_append, List.length_append, h.1]; rfl
theorem tris_len (l : List TriS) (h : ∀ t ∈ l, t.ok) : (trisC l).length = l.length * 19 := flat_length l fun t ht => triC_length t (h t ht)
theorem tris_P (l : List TriS) (h : ∀ t ∈ l, t.ok) (k : Nat) (t : TriS) (ht : l[k]? = some t) : ((trisC l).drop (k * 19)).take 9 = (P9 t.p0 t.p1 t.p2).toList := by
  have hr := flat_row l (fun t ht => triC_length t (h t ht)) k t ht
  have : ((trisC l).drop (k * 19)).take 9 = (((l.flatMap triC).drop (k * 19)).take 19).take 9 := by rw [List.take_take]; rfl
  rw [this, hr, triC, List.take_append_of_le_length (by show 9 ≤ 9; omega), List.take_of_length_le (by show 9 ≤ 9; omega)]
def meetM (o d : P3) (mask : BitVec 8) (skip : Int) (k : Nat) (t : TriS) : M4 × Bool := ((hitM o d t.p0 t.p1 t.p2).1, (hitM o d t.p0 t.p1 t.p2).2 && ((t.mask &&& mask != BitVec.ofInt 8 0) && decide ((k : Int) ≠ skip)))
attribute [local irreducible] Calls Walk1 WalkTo Tri EndA
end Go.Proofs.Ytcgmapioelfneaa
namespace Go.Proofs.Ytcgmapioelfneaa
open Go.RowKit
set_option maxRecDepth 100000
/-! ### bytes as a number -/
/-! ### sums and products of 64 bits -/
/-! ### the state of three numbers -/
end Go.Proofs.Ytcgmapioelfneaa
namespace Go.Proofs.Ytcgmapioelfneaa
open Go.RowKit
set_option maxRecDepth 100000
set_option maxHeartbeats 2000000
attribute [local irreducible] Calls Walk1 WalkTo Tri EndA
end Go.Proofs.Ytcgmapioelfneaa
namespace Go.Proofs.Ytcgmapioelfneaa
open Go.RowKit
set_option maxRecDepth 100000
set_option maxHeartbeats 2000000
def lessM (a b : M4) : Bool := decide (0 < a.det) && (decide (0 < b.det) && decide (a.num * b.det < b.num * a.det))
attribute [local irreducible] Calls Walk1 WalkTo Tri EndA
end Go.Proofs.Ytcgmapioelfneaa
