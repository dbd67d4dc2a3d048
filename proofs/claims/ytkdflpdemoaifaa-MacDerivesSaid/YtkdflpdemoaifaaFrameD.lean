/- A slice of pairs of ints, opened. -/
import Derived.Test.YtkdflpdemoaifaaFrameC
namespace Go.Proofs.Ytkdflpdemoaifaa
open Go.RowKit Go.ChangeAt Go.ChangeShapes Go.WideShapes Go.Deep
set_option maxRecDepth 100000
section
variable {H : Type} {enc : TypeId × Value → H} {P : Program} {w : World} {base : Nat} {spare : Nat → Bool} {held : Bool}
/-- Pairs, one behind the other. -/
def prL (l : List (Int × Int)) : List Value := ivL (l.flatMap fun p => [p.1, p.2])
theorem prL_length (l : List (Int × Int)) : (prL l).length = l.length * 2 := by
  induction l with
  | nil => rfl
  | cons p l ih => simp only [prL, ivL, List.flatMap_cons, List.map_append, List.length_append] at ih ⊢; rw [ih]; simp; omega
theorem prL_get : ∀ (l : List (Int × Int)) (i : Nat) (p : Int × Int), l[i]? = some p → (prL l)[i * 2]? = some (.int .i64 p.1) ∧ (prL l)[i * 2 + 1]? = some (.int .i64 p.2)
  | [], i, p, h => by simp at h
  | q :: l, 0, p, h => by
    simp at h
    subst h
    exact ⟨rfl, rfl⟩
  | q :: l, i + 1, p, h => by
    have := prL_get l i p (by simpa using h)
    have e : prL (q :: l) = .int .i64 q.1 :: .int .i64 q.2 :: prL l := rfl
    rw [e, show (i + 1) * 2 = i * 2 + 1 + 1 by omega, show i * 2 + 1 + 1 + 1 = (i * 2 + 1) + 1 + 1 by omega]
    simpa using this
theorem open_twos {t t1 e : TypeId} (ht : P.underlying t = some (.slice t1)) (ht1 : P.underlying t1 = some (.array 2 e)) (he : P.underlying e = some (.int .i64)) (hce : P.cellsOf e = 1) (hct : P.cellsOf t1 = 2) {b : Nat} {v : Value} (hok : Value.okWide P w .any b t v) {d : DataW H} {p : List MemPlace} (h : DataW.Trod enc P w base spare held t v d p) :
    ∃ l : List (Int × Int), RdV w 2 v l.length (prL l) ∧ (∃ a c, v = .slice a l.length c) := by
  obtain ⟨a, len, cap, rfl⟩ := okWide_slice ht hok
  obtain ⟨fuel, hf⟩ := h
  have hf' : DataW.trod enc P w base spare held fuel t [.slice a len cap] = some (d, p) := hf
  rcases open_slice ht hf' with ⟨hcs, _⟩ | ⟨a, len, cap, m, n, D, Pl, hcs, _, hl, hm, hmm, _, hx⟩
  · simp at hcs
    obtain ⟨rfl, rfl, rfl⟩ := hcs
    exact ⟨[], ⟨rfl, none, 0, rfl, .inl rfl⟩, none, 0, rfl⟩
  · simp at hcs
    obtain ⟨rfl, rfl, rfl⟩ := hcs
    have hlm : len ≤ m := by rw [hmm]; split <;> omega
    have hall : ∀ i, i < len → ∃ z : Int × Int, w.cell? (a.add (i * 2)) = some (.int .i64 z.1) ∧ w.cell? (a.add (i * 2 + 1)) = some (.int .i64 z.2) := by
      intro i hi
      obtain ⟨cs', hc, htr⟩ := hx i (by omega)
      rw [hct] at hc
      obtain ⟨l, hl2, rfl, _⟩ := icells_of_trod ht1 he hce hct htr
      obtain ⟨x, y, rfl⟩ := two_of hl2
      obtain ⟨_, _, hcell⟩ := World.cells?_some hc
      have h0 := hcell 0 (by omega)
      have h1 := hcell 1 (by omega)
      rw [Addr.add_add] at h0 h1
      exact ⟨(x, y), by simpa [ivL] using h0, by simpa [ivL] using h1⟩
    obtain ⟨Z, hZ⟩ := choose_lt (α := Int × Int) hall
    refine ⟨(List.range len).map Z, ⟨by rw [prL_length], some a, cap, by simp, ?_⟩, some a, cap, by simp⟩
    by_cases h0 : len = 0
    · left; simpa using h0
    · right
      obtain ⟨b, off, spot⟩ := a
      have hspot : spot = none := by simpa [Addr.add] using World.cell?_spot (hZ 0 (by omega)).1
      subst hspot
      refine ⟨b, off, rfl, fun j u hu => ?_⟩
      have hj : j < len * 2 := by
        have := (List.getElem?_eq_some_iff.1 hu).1
        rw [prL_length] at this
        simpa using this
      have hg := prL_get ((List.range len).map Z) (j / 2) (Z (j / 2)) (by simp [show j / 2 < len by omega])
      obtain ⟨c0, c1⟩ := hZ (j / 2) (by omega)
      rw [add_place] at c0 c1
      rcases Nat.mod_two_eq_zero_or_one j with h2 | h2
      · rw [show j / 2 * 2 = j by omega] at hg c0
        rw [hg.1] at hu
        cases hu
        exact c0
      · rw [show j / 2 * 2 + 1 = j by omega] at hg c1
        rw [hg.2] at hu
        cases hu
        exact c1
end
end Go.Proofs.Ytkdflpdemoaifaa
