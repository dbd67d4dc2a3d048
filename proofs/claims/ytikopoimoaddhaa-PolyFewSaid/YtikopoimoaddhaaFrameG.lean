/- A slice of rows of bytes, opened. No condition. -/
import Derived.Test.YtikopoimoaddhaaFrameC
import Derived.Test.YtikopoimoaddhaaSymX
namespace Go.Proofs.Ytikopoimoaddhaa
open Go.RowKit Go.ChangeAt Go.ChangeShapes Go.WideShapes Go.Deep
set_option maxRecDepth 100000
section
variable {H : Type} {enc : TypeId × Value → H} {P : Program} {w : World} {base : Nat} {spare : Nat → Bool} {held : Bool}
theorem open_rows {t t1 e : TypeId} {n : Nat} (ht : P.underlying t = some (.slice t1)) (ht1 : P.underlying t1 = some (.array n e)) (he : P.underlying e = some (.int .u8)) (hce : P.cellsOf e = 1) (hct : P.cellsOf t1 = n) (hn : 0 < n)
    {b : Nat} {v : Value} (hok : Value.okWide P w .any b t v) {d : DataW H} {p : List MemPlace} (h : DataW.Trod enc P w base spare held t v d p) :
    ∃ ks : List (List (BitVec 8)), (∀ k ∈ ks, k.length = n) ∧ RdV w n v ks.length (valsL .u8 ks.flatten) := by
  obtain ⟨a, len, cap, rfl⟩ := okWide_slice ht hok
  obtain ⟨fuel, hf⟩ := h
  have hf' : DataW.trod enc P w base spare held fuel t [.slice a len cap] = some (d, p) := hf
  rcases open_slice ht hf' with ⟨hcs, _⟩ | ⟨a, len, cap, m, q, D, Pl, hcs, _, hl, hm, hmm, _, hx⟩
  · simp at hcs
    obtain ⟨rfl, rfl, rfl⟩ := hcs
    exact ⟨[], fun e he => by simp at he, by simp [valsL], none, 0, rfl, .inl rfl⟩
  · simp at hcs
    obtain ⟨rfl, rfl, rfl⟩ := hcs
    have hlm : len ≤ m := by rw [hmm]; split <;> omega
    have hall : ∀ i, i < len → ∃ e : List (BitVec 8), e.length = n ∧ ∀ k u, (valsL .u8 e)[k]? = some u → w.cell? (a.add (i * n + k)) = some u := by
      intro i hi
      obtain ⟨cs', hc, htr⟩ := hx i (by omega)
      rw [hct] at hc
      obtain ⟨e, hel, hcs⟩ := cells_of_trod bv8_of ht1 he hce hct htr
      have hcs : cs' = valsL .u8 e := hcs
      subst hcs
      obtain ⟨_, _, hcell⟩ := World.cells?_some hc
      refine ⟨e, hel, fun k u hu => ?_⟩
      have hk : k < n := by have := (List.getElem?_eq_some_iff.1 hu).1; rw [valsL_length, hel] at this; exact this
      have h0 := hcell k hk
      rw [Addr.add_add, hu] at h0
      exact h0
    obtain ⟨Z, hZ⟩ := choose_lt (α := List (BitVec 8)) hall
    have hzl : ∀ e ∈ (List.range len).map Z, e.length = n := fun e he => by
      obtain ⟨i, hi, rfl⟩ := List.mem_map.1 he
      exact (hZ i (List.mem_range.1 hi)).1
    have hfl : valsL .u8 ((List.range len).map Z).flatten = ((List.range len).map Z).flatMap (valsL .u8) := by
      simp [valsL, List.flatMap_def, List.map_flatten]
      rfl
    have hzl2 : ∀ e ∈ (List.range len).map Z, (valsL .u8 e).length = n := fun e he => by rw [valsL_length]; exact hzl e he
    refine ⟨(List.range len).map Z, hzl, by rw [hfl]; exact flat_length _ hzl2, some a, cap, by simp, ?_⟩
    by_cases h0 : len = 0
    · left; simpa using h0
    · right
      obtain ⟨b, off, spot⟩ := a
      obtain ⟨ho, hz0⟩ := hZ 0 (by omega)
      have hspot : spot = none := by
        have h1 : (valsL .u8 (Z 0))[0]? = some ((valsL .u8 (Z 0))[0]'(by rw [valsL_length]; omega)) := List.getElem?_eq_getElem _
        have := hz0 0 _ h1
        simpa [Addr.add] using World.cell?_spot this
      subst hspot
      refine ⟨b, off, rfl, fun j u hu => ?_⟩
      rw [hfl] at hu
      have hj : j < len * n := by
        have := (List.getElem?_eq_some_iff.1 hu).1
        rw [flat_length _ hzl2] at this
        simpa using this
      have hj2 : j / n < len := (Nat.div_lt_iff_lt_mul hn).2 hj
      have hg : ((List.range len).map Z)[j / n]? = some (Z (j / n)) := by simp [hj2]
      have hfg := flat_get _ hzl2 (j / n) (j % n) _ hg (Nat.mod_lt _ hn)
      have hdm : j / n * n + j % n = j := by rw [Nat.mul_comm]; exact Nat.div_add_mod j n
      rw [hdm, hu] at hfg
      have := (hZ (j / n) hj2).2 (j % n) u hfg.symm
      rw [add_place, hdm] at this
      exact this
end
end Go.Proofs.Ytikopoimoaddhaa
