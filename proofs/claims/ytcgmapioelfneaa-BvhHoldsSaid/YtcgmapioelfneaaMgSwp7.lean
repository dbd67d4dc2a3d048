/- A sweep: what it looks at: walked. No condition. Slices of rows made, filled from one that lay there; a struct built of an own slice. No condition. A sweep made new: walked. No condition. A new object with a slice of its own and a value, handed back together: the call. No condition. -/
import Derived.Test.YtcgmapioelfneaaMgSymY
import Derived.Test.YtcgmapioelfneaaSymX
import Derived.Laws.CopyRow
namespace Go.Proofs.Ytcgmapioelfneaa
open Go.RowKit
set_option maxRecDepth 100000
set_option maxHeartbeats 2000000
theorem op_loadsQ {C : Ctx} {ops : Array Oper} {S : St} {o : Oper} {ty : TypeId} {x : Operand} {n off len sz m : Nat} {T0 : TypeId} {xs B : List Value} {d : TypeDesc} (ho : o.op = .load ty x) (hg : o.guard = none) (hd : dstB o.dst C.nt = true) (hx : S.ev x = some (.vp n off)) (hr : S.res n = some (.own n T0 sz len xs)) (hu' : tabLook undT ty = some d) (hda : d.isRow = true) (hi' : tabLook sizT ty = some m) (hm : 0 < m) (hb : off + m ≤ xs.length) (hB : (xs.drop off).take m = B) :
    OpG C Try.prog ops o S ⟨opT x, [n], dw o.dst (.c (.agg B.toArray)), [], []⟩ :=
  op_loadsV ho hg hd hx hr hu' hda hi' hm hb (by rw [hB])
/-- A triangle. -/
structure TriS where
  p0 : P3
  p1 : P3
  p2 : P3
  rest : List Value
  mask : BitVec 8
def TriS.ok (t : TriS) : Prop := t.rest.length = 9 ∧ ∀ u ∈ t.rest, u.oneCell' = true
def triC (t : TriS) : List Value := (P9 t.p0 t.p1 t.p2).toList ++ (t.rest ++ [.int .u8 (bvi t.mask)])
def trisC (l : List TriS) : List Value := l.flatMap triC
theorem triC_length (t : TriS) (h : t.ok) : (triC t).length = 19 := by
  rw [triC, List.length_append, List.length_append, h.1]; rfl
theorem tris_len (l : List TriS) (h : ∀ t ∈ l, t.ok) : (trisC l).length = l.length * 19 := flat_length l fun t ht => triC_length t (h t ht)
theorem tris_P (l : List TriS) (h : ∀ t ∈ l, t.ok) (k : Nat) (t : TriS) (ht : l[k]? = some t) : ((trisC l).drop (k * 19)).take 9 = (P9 t.p0 t.p1 t.p2).toList := by
  have hr := flat_row l (fun t ht => triC_length t (h t ht)) k t ht
  have : ((trisC l).drop (k * 19)).take 9 = (((l.flatMap triC).drop (k * 19)).take 19).take 9 := by rw [List.take_take]; rfl
  rw [this, hr, triC, List.take_append_of_le_length (by show 9 ≤ 9; omega), List.take_of_length_le (by show 9 ≤ 9; omega)]
def meetM (o d : P3) (mask : BitVec 8) (skip : Int) (k : Nat) (t : TriS) : M4 × Bool := ((hitM o d t.p0 t.p1 t.p2).1, (hitM o d t.p0 t.p1 t.p2).2 && ((t.mask &&& mask != BitVec.ofInt 8 0) && decide ((k : Int) ≠ skip)))
attribute [local irreducible] Calls Walk1 WalkTo Tri EndA
end Go.Proofs.Ytcgmapioelfneaa
namespace Go.Proofs.Ytcgmapioelfneaa
open Go.RowKit
set_option maxRecDepth 100000
set_option maxHeartbeats 1000000
variable {C : Ctx} {ops : Array Oper} {S : St} {o : Oper}
theorem op_makeZ {t T n len by_ sz : Nat} {x y : Operand} {Z : Array Value} (ho : o.op = .makeSlice t x y) (hdn : o.dst = some n) (hg : o.guard = none) (hd : dstB o.dst C.nt = true) (hx : EvN S x len) (hy : EvN S y len) (hu' : tabLook undT t = some (.slice T)) (hs' : tabLook sizT T = some sz) (hy' : tabLook bytT T = some by_) (hz' : tabLook zerT T = some Z) (hlen : len * by_ ≤ 281474976710656 ∧ len ≤ 1099511627776) :
    OpG C Try.prog ops o S ⟨opT x ++ opT y, [], [(n, .v n)], [(n, some (.own n T sz len (madeCells Z (len * sz)).toList))], [n]⟩ := by
  refine opG_mk hg fun S' h1 h2 h3 e a w hS => ?_
  have hevx : a.eval x = .int .i64 ((len : Nat) : Int) := hS.ev ((ev_like h1 fun _ h => List.mem_append_left _ h).trans hx)
  have hevy : a.eval y = .int .i64 ((len : Nat) : Int) := hS.ev ((ev_like h1 fun _ h => List.mem_append_right _ h).trans hy)
  have hu := tabAll_look undT_ok hu'
  have hs := tabAll_look sizT_ok hs'
  have hz := tabAll_look zerT_ok hz'
  have hby := tabAll_look bytT_ok hy'
  cases hb : (Try.prog.info? T) with
  | none => simp [hb] at hz
  | some i =>
    cases hc : i.zero with
    | none => simp [hb, hc] at hz
    | some zz =>
      have hzc : zz.cells = Z := by simpa [hb, hc] using hz
      have his : i.size = sz := by simpa [hb] using hs
      have hib : i.bytes = by_ := by simpa [hb] using hby
      have hr := run_make (P := Try.prog) w t T i zz hu hb hc .i64 .i64 (len : Int) (len : Int) (by omega) (Int.le_refl _) (by rw [hib, ← Int.natCast_mul, Nat.mul_comm]; omega) (by omega)
      simp only [Int.toNat_natCast, his, hzc] at hr
      have hrun : (execOp a.eval o).run Try.prog w = .ok (.value (.slice (some ⟨w.heap.size, 0, none⟩) len len)) (w.alloc (.cells (madeCells Z (len * sz)) T)) := by
        simp only [execOp, ho, hevx, hevy, Sem.run_bind, hr, Result.andThen_ok, Sem.run_pure]
      have hown := World.ownsRow_lit (base := w.heap.size) (e := T) (size := sz) w (madeCells Z (len * sz)) len (Nat.le_refl _) (by simp only [maxLen]; omega) (by rw [size_madeCells])
      have hH := hS.ownNew (n := n) (h3 n (by simp)) ((Below.refl _ _).alloc (Nat.le_refl _) _) hown
      refine wp_value hrun ⟨e.set n ⟨0, 0, .slice (some ⟨w.heap.size, 0, none⟩) len len⟩, ?_⟩
      rw [hdn]
      have hd' : dstB (some n) C.nt = true := by rw [← hdn]; exact hd
      have := hH.put hd' (.v n)
      simp only [SV.v, Env.set_self] at this
      exact this
end Go.Proofs.Ytcgmapioelfneaa
namespace Go.Proofs.Ytcgmapioelfneaa
open Go.RowKit
set_option maxRecDepth 100000
set_option maxHeartbeats 2000000
attribute [local irreducible] Calls Walk1 WalkTo Tri EndA
end Go.Proofs.Ytcgmapioelfneaa
namespace Go.Proofs.Ytcgmapioelfneaa
open Go.RowKit
set_option maxRecDepth 100000
set_option maxHeartbeats 1000000
section
variable {C : Ctx} {ops : Array Oper} {S : St} {o : Oper}
variable {l : List Oper} {t : List (Nat × SV)} {h : List (Nat × Option Res)} {d : Nat} {f j : FuncId} {xs : Array Operand} {ats : Array TypeId} {vs : List SV}
end
end Go.Proofs.Ytcgmapioelfneaa
