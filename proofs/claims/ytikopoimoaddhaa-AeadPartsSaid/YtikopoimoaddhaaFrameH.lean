/- An argument that is a struct of two arrays of bytes. No condition. -/
import Derived.Test.YtikopoimoaddhaaFrameB
namespace Go.Proofs.Ytikopoimoaddhaa
open Go.ChangeShapes Go.WideShapes Go.ChangeAt Go.RowKit Go.Deep
set_option maxRecDepth 100000
section
variable {H : Type} {enc : TypeId × Value → H} {P : Program} {w : World} {base : Nat} {spare : Nat → Bool} {held : Bool}
theorem open_seed2 {t : TypeId} {f0 f2 : Field} {n0 n2 : Nat} {e0 e2 : TypeId} (ht : P.underlying t = some (.struct #[f0, f2])) (h0 : P.underlying f0.type = some (.array n0 e0)) (h2 : P.underlying f2.type = some (.array n2 e2)) (g0 : P.underlying e0 = some (.int .u8)) (g2 : P.underlying e2 = some (.int .u8))
    (c0 : P.cellsOf e0 = 1) (c2 : P.cellsOf e2 = 1) (d0 : P.cellsOf f0.type = n0) (d2 : P.cellsOf f2.type = n2) (o0 : f0.offset = 0) (o2 : f2.offset = n0) (hsum : P.cellsOf t = n0 + n2)
    {b : Nat} {v : Value} (hok : Value.okWide P w .any b t v) {d : DataW H} {p : List MemPlace} (h : DataW.Trod enc P w base spare held t v d p) :
    ∃ (x : List (BitVec 8)) (y : List (BitVec 8)), x.length = n0 ∧ y.length = n2 ∧ v = .agg (vals .u8 x ++ vals .u8 y) := by
  unfold Value.okWide at hok
  rw [ht] at hok
  obtain ⟨cs, rfl, _, _⟩ := hok
  obtain ⟨fuel, hf⟩ := h
  obtain ⟨y0, y2, n, _, hl, k0, k2⟩ := trod_struct2 ht hf
  obtain ⟨x, hx, ex⟩ := cells_of_trod bv8_of h0 g0 c0 d0 k0
  obtain ⟨y, hy, ey⟩ := cells_of_trod bv8_of h2 g2 c2 d2 k2
  refine ⟨x, y, hx, hy, ?_⟩
  have hcs : (Value.agg cs).cells.toList = cs.toList := rfl
  rw [hcs, o0, d0] at ex
  rw [hcs, o2, d2] at ey
  rw [hcs, hsum] at hl
  congr 1
  apply Array.ext'
  have e1 : cs.toList = cs.toList.take n0 ++ (cs.toList.drop n0).take n2 := by
    rw [List.take_of_length_le (l := cs.toList.drop n0) (by simp at hl ⊢; omega), List.take_append_drop]
  rw [List.drop_zero] at ex
  rw [e1, ex, ey]
  simp [vals, valsL]
end
end Go.Proofs.Ytikopoimoaddhaa
