/- Arguments of ints, opened. -/
import Derived.Test.YtgjlpnendljcaaaFrameB
namespace Go.Proofs.Ytgjlpnendljcaaa
set_option maxRecDepth 100000
section
variable {H : Type} {enc : TypeId × Value → H} {P : Program} {w : World} {base : Nat} {spare : Nat → Bool} {held : Bool}
/-- The values of ints. -/
def ivL (l : List Int) : List Value := l.map (Value.int .i64)
def ivs (l : List Int) : Array Value := (ivL l).toArray
def In64 (z : Int) : Prop := -9223372036854775808 ≤ z ∧ z < 9223372036854775808
theorem wf64 {z : Int} (h : (Lit.int .i64 z).wf = true) : In64 z := by
  have := bd_of_wf h
  unfold In64
  omega
/-- Cells that read as so many ints. -/
theorem icells_of_trod {t e : TypeId} {n : Nat} (ht : P.underlying t = some (.array n e)) (he : P.underlying e = some (.int .i64))
    (hce : P.cellsOf e = 1) (hct : P.cellsOf t = n) {fuel : Nat} {cs : List Value} {x : DataW H × List MemPlace} (h : DataW.trod enc P w base spare held fuel t cs = some x) :
    ∃ l : List Int, l.length = n ∧ cs = ivL l ∧ ∀ z ∈ l, In64 z := by
  obtain ⟨xs, q, rfl, rfl, hl, hxl, hx⟩ := DataW.trod_array ht h
  rw [hct] at hl
  have hall : ∀ i, i < n → ∃ z : Int, cs[i]? = some (.int .i64 z) ∧ In64 z := by
    intro i hi
    have h1 := hx i hi
    rw [hce, Nat.mul_one] at h1
    have h2 : (cs.drop i).take 1 = [cs[i]'(by omega)] := by
      rw [List.drop_eq_getElem_cons (by omega)]; rfl
    rw [h2, List.getElem?_eq_getElem (by omega)] at h1
    obtain ⟨z, e0, _, wz⟩ := DataW.trod_int he h1
    refine ⟨z, ?_, wf64 wz⟩
    rw [List.getElem?_eq_getElem (by omega)]
    simp at e0
    rw [e0]
  refine ⟨List.ofFn fun i : Fin n => Classical.choose (hall i.1 i.2), by simp, ?_, ?_⟩
  · apply List.ext_getElem?
    intro i
    by_cases hi : i < n
    · rw [(Classical.choose_spec (hall i hi)).1]
      simp [ivL, hi]
    · rw [List.getElem?_eq_none (by omega), List.getElem?_eq_none (by simp [ivL]; omega)]
  · intro z hz
    obtain ⟨i, rfl⟩ := List.mem_ofFn.1 hz
    exact (Classical.choose_spec (hall i.1 i.2)).2
theorem open_arrI {t e : TypeId} {n : Nat} (ht : P.underlying t = some (.array n e)) (he : P.underlying e = some (.int .i64))
    (hce : P.cellsOf e = 1) (hct : P.cellsOf t = n) {b : Nat} {v : Value} (hok : Value.okWide P w .any b t v) {d : DataW H} {p : List MemPlace} (h : DataW.Trod enc P w base spare held t v d p) :
    ∃ l : List Int, l.length = n ∧ v = .agg (ivs l) ∧ ∀ z ∈ l, In64 z := by
  unfold Value.okWide at hok
  rw [ht] at hok
  obtain ⟨cs, rfl, _, _⟩ := hok
  obtain ⟨fuel, hf⟩ := h
  obtain ⟨l, hl, hcs, hz⟩ := icells_of_trod ht he hce hct hf
  refine ⟨l, hl, ?_, hz⟩
  have : cs.toList = ivL l := hcs
  rw [ivs, ← this, Array.toArray_toList]
theorem four_of {l : List Int} (h : l.length = 4) : ∃ a b c d, l = [a, b, c, d] := by
  match l, h with
  | [a, b, c, d], _ => exact ⟨a, b, c, d, rfl⟩
theorem two_of {l : List Int} (h : l.length = 2) : ∃ a b, l = [a, b] := by
  match l, h with
  | [a, b], _ => exact ⟨a, b, rfl⟩
end
end Go.Proofs.Ytgjlpnendljcaaa
