/- Two slices of rows in an array: opened. No condition. -/
import Derived.Test.YtgjlpnendljcaaaFrameK
namespace Go.Proofs.Ytgjlpnendljcaaa
open Go.RowKit Go.ChangeAt Go.ChangeShapes Go.WideShapes Go.Deep
set_option maxRecDepth 100000
section
variable {H : Type} {enc : TypeId × Value → H} {P : Program} {w : World} {base : Nat} {spare : Nat → Bool} {held : Bool}
theorem flats_of_trod {t t1 : TypeId} {ks : List Kd} (ht : P.underlying t = some (.slice t1)) (hk : flatT P 20 t1 = some ks) (hc : P.cellsOf t1 = ks.length) (hpos : 0 < ks.length)
    {fuel : Nat} {vs : List Value} {x : DataW H × List MemPlace} (hf' : DataW.trod enc P w base spare held fuel t vs = some x) :
    ∃ (v : Value) (rs : List (List Value)), vs = [v] ∧ FS w ks.length v rs.length (rs.flatMap id) ∧ (∀ r ∈ rs, Flat ks r) := by
  obtain ⟨d, p⟩ := x
  rcases open_slice ht hf' with ⟨hcs, _⟩ | ⟨a, len, cap, m, n, D, Pl, hcs, _, hl, hm, hmm, _, hx⟩
  · exact ⟨_, [], hcs, ⟨⟨by simp, none, 0, rfl, .inl rfl⟩, none, 0, rfl, Nat.le_refl _⟩, fun e he => by simp at he⟩
  · have hlm : len ≤ m := by rw [hmm]; split <;> omega
    have hall : ∀ i, i < len → ∃ r : List Value, Flat ks r ∧ ∀ k u, r[k]? = some u → w.cell? (a.add (i * ks.length + k)) = some u := by
      intro i hi
      obtain ⟨cs', hc', htr⟩ := hx i (by omega)
      rw [hc] at hc'
      have he := flat_of_trod 20 t1 ks hk hc _ _ _ htr
      obtain ⟨_, _, hcell⟩ := World.cells?_some hc'
      refine ⟨cs', he, fun k u hu => ?_⟩
      have hk : k < ks.length := by have := (List.getElem?_eq_some_iff.1 hu).1; rw [he.len] at this; exact this
      have h0 := hcell k hk
      rw [Addr.add_add, hu] at h0
      exact h0
    obtain ⟨Z, hZ⟩ := choose_lt (α := List Value) hall
    have hzl : ∀ r ∈ (List.range len).map Z, (id r).length = ks.length := fun r hr => by
      obtain ⟨i, hi, rfl⟩ := List.mem_map.1 hr
      exact (hZ i (List.mem_range.1 hi)).1.len
    refine ⟨_, (List.range len).map Z, hcs, ⟨⟨flat_length _ hzl, some a, cap, by simp, ?_⟩, some a, cap, by simp, by simpa using hl⟩, fun e he => ?_⟩
    · by_cases h0 : len = 0
      · left; simpa using h0
      · right
        obtain ⟨b, off, spot⟩ := a
        obtain ⟨ho, hz0⟩ := hZ 0 (by omega)
        have hspot : spot = none := by
          have h1 : 0 < (Z 0).length := by rw [ho.len]; exact hpos
          have := hz0 0 (Z 0)[0] (List.getElem?_eq_getElem h1)
          simpa [Addr.add] using World.cell?_spot this
        subst hspot
        refine ⟨b, off, rfl, fun j u hu => ?_⟩
        have hj : j < len * ks.length := by
          have := (List.getElem?_eq_some_iff.1 hu).1
          rw [flat_length _ hzl] at this
          simpa using this
        have hj2 : j / ks.length < len := by rw [Nat.div_lt_iff_lt_mul hpos]; exact hj
        have hg : ((List.range len).map Z)[j / ks.length]? = some (Z (j / ks.length)) := by simp [hj2]
        have hfg := flat_get _ hzl (j / ks.length) (j % ks.length) _ hg (Nat.mod_lt _ hpos)
        rw [show j / ks.length * ks.length + j % ks.length = j by rw [Nat.mul_comm]; exact Nat.div_add_mod j ks.length, hu] at hfg
        have := (hZ (j / ks.length) hj2).2 (j % ks.length) u hfg.symm
        rw [add_place, show j / ks.length * ks.length + j % ks.length = j by rw [Nat.mul_comm]; exact Nat.div_add_mod j ks.length] at this
        exact this
    · obtain ⟨i, hi, rfl⟩ := List.mem_map.1 he
      exact (hZ i (List.mem_range.1 hi)).1
theorem open_two {t e t1 : TypeId} {ks : List Kd} (ht : P.underlying t = some (.array 2 e)) (he : P.underlying e = some (.slice t1)) (hce : P.cellsOf e = 1) (hct : P.cellsOf t = 2) (hk : flatT P 20 t1 = some ks) (hc : P.cellsOf t1 = ks.length) (hpos : 0 < ks.length)
    {b : Nat} {v : Value} (hok : Value.okWide P w .any b t v) {d : DataW H} {p : List MemPlace} (h : DataW.Trod enc P w base spare held t v d p) :
    ∃ (v0 v1 : Value) (rs0 rs1 : List (List Value)), v = .agg #[v0, v1] ∧ FS w ks.length v0 rs0.length (rs0.flatMap id) ∧ (∀ r ∈ rs0, Flat ks r) ∧ FS w ks.length v1 rs1.length (rs1.flatMap id) ∧ (∀ r ∈ rs1, Flat ks r) := by
  obtain ⟨fuel, hf⟩ := h
  unfold Value.okWide at hok
  rw [ht] at hok
  obtain ⟨cs, rfl, _⟩ := hok
  have hf' : DataW.trod enc P w base spare held fuel t cs.toList = some (d, p) := hf
  obtain ⟨xs, m', _, _, hcl, hxl, hel⟩ := DataW.trod_array ht hf'
  have h0 := hel 0 (by omega)
  have h1 := hel 1 (by omega)
  rw [List.getElem?_eq_getElem (by omega : 0 < xs.length), hce] at h0
  rw [List.getElem?_eq_getElem (by omega : 1 < xs.length), hce] at h1
  obtain ⟨v0, rs0, e0, f0, g0⟩ := flats_of_trod he hk hc hpos h0
  obtain ⟨v1, rs1, e1, f1, g1⟩ := flats_of_trod he hk hc hpos h1
  refine ⟨v0, v1, rs0, rs1, ?_, f0, g0, f1, g1⟩
  have hl : cs.toList.length = 2 := by rw [hcl, hct]
  obtain ⟨l⟩ := cs
  match l, hl with
  | [x, y], _ =>
    simp at e0 e1
    rw [e0, e1]
end
end Go.Proofs.Ytgjlpnendljcaaa
