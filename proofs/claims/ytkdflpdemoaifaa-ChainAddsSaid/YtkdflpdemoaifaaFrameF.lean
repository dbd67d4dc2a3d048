/- A slice of entries, opened. No condition. -/
import Derived.Test.YtkdflpdemoaifaaFrameC
import Derived.Test.YtkdflpdemoaifaaChn4
import Derived.Test.YtkdflpdemoaifaaSymX
namespace Go.Proofs.Ytkdflpdemoaifaa
open Go.RowKit Go.ChangeAt Go.ChangeShapes Go.WideShapes Go.Deep
set_option maxRecDepth 100000
section
variable {H : Type} {enc : TypeId × Value → H} {P : Program} {w : World} {base : Nat} {spare : Nat → Bool} {held : Bool}
theorem trod_struct5 {t : TypeId} {f0 f1 f2 f3 f4 : Field} {fuel : Nat} {cs : List Value} {x : DataW H × List MemPlace} (ht : P.underlying t = some (.struct #[f0, f1, f2, f3, f4])) (h : DataW.trod enc P w base spare held fuel t cs = some x) :
    ∃ y0 y1 y2 y3 y4 n, cs.length = P.cellsOf t ∧ DataW.trod enc P w base spare held n f0.type ((cs.drop f0.offset).take (P.cellsOf f0.type)) = some y0 ∧
      DataW.trod enc P w base spare held n f1.type ((cs.drop f1.offset).take (P.cellsOf f1.type)) = some y1 ∧ DataW.trod enc P w base spare held n f2.type ((cs.drop f2.offset).take (P.cellsOf f2.type)) = some y2 ∧
      DataW.trod enc P w base spare held n f3.type ((cs.drop f3.offset).take (P.cellsOf f3.type)) = some y3 ∧ DataW.trod enc P w base spare held n f4.type ((cs.drop f4.offset).take (P.cellsOf f4.type)) = some y4 := by
  obtain ⟨xs, n, _, rfl, hl, hlen, hf⟩ := DataW.trod_struct ht h
  match xs, hlen with
  | [y0, y1, y2, y3, y4], _ => exact ⟨y0, y1, y2, y3, y4, n, hl, by simpa using hf 0 f0 rfl, by simpa using hf 1 f1 rfl, by simpa using hf 2 f2 rfl, by simpa using hf 3 f3 rfl, by simpa using hf 4 f4 rfl⟩
instance : Inhabited Ent32 := ⟨⟨0, 0, 0, 0, []⟩⟩
theorem ent_of_trod {t e4 : TypeId} {f0 f1 f2 f3 f4 : Field} (ht : P.underlying t = some (.struct #[f0, f1, f2, f3, f4])) (h0 : P.underlying f0.type = some (.int .i64)) (h1 : P.underlying f1.type = some (.int .u32)) (h2 : P.underlying f2.type = some (.int .i64)) (h3 : P.underlying f3.type = some (.int .i64)) (h4 : P.underlying f4.type = some (.array 32 e4)) (g4 : P.underlying e4 = some (.int .u8))
    (c4 : P.cellsOf e4 = 1) (d0 : P.cellsOf f0.type = 1) (d1 : P.cellsOf f1.type = 1) (d2 : P.cellsOf f2.type = 1) (d3 : P.cellsOf f3.type = 1) (d4 : P.cellsOf f4.type = 32) (o0 : f0.offset = 0) (o1 : f1.offset = 1) (o2 : f2.offset = 2) (o3 : f3.offset = 3) (o4 : f4.offset = 4) (hsum : P.cellsOf t = 36)
    {fuel : Nat} {cs : List Value} {x : DataW H × List MemPlace} (h : DataW.trod enc P w base spare held fuel t cs = some x) : ∃ e : Ent32, e.ok ∧ cs = entC e := by
  obtain ⟨y0, y1, y2, y3, y4, n, hl, k0, k1, k2, k3, k4⟩ := trod_struct5 ht h
  obtain ⟨z0, e0, _, w0⟩ := DataW.trod_int h0 k0
  obtain ⟨z1, e1, _, w1⟩ := DataW.trod_int h1 k1
  obtain ⟨z2, e2, _, w2⟩ := DataW.trod_int h2 k2
  obtain ⟨z3, e3, _, w3⟩ := DataW.trod_int h3 k3
  obtain ⟨l, hll, e4⟩ := cells_of_trod bv8_of h4 g4 c4 d4 k4
  obtain ⟨c, rfl⟩ := bv32_of z1 w1
  rw [o0, d0] at e0
  rw [o1, d1] at e1
  rw [o2, d2] at e2
  rw [o3, d3] at e3
  rw [o4, d4] at e4
  refine ⟨⟨z0, c, z2, z3, l⟩, ⟨wf64 w0, wf64 w2, wf64 w3, hll⟩, ?_⟩
  rw [hsum] at hl
  rw [List.drop_zero] at e0
  have e : cs = cs.take 1 ++ ((cs.drop 1).take 1 ++ ((cs.drop 2).take 1 ++ ((cs.drop 3).take 1 ++ (cs.drop 4).take 32))) := by
    rw [List.take_of_length_le (l := cs.drop 4) (by rw [List.length_drop]; omega)]
    have g : ∀ k, (cs.drop k).take 1 ++ cs.drop (k + 1) = cs.drop k := fun k => by rw [← List.drop_drop, List.take_append_drop]
    rw [g 3, g 2, g 1]
    conv => lhs; rw [← List.take_append_drop 1 cs]
  rw [e, e0, e1, e2, e3, e4]
  simp [entC, valsL]
theorem open_ents {t t1 : TypeId} (ht : P.underlying t = some (.slice t1)) (hct : P.cellsOf t1 = 36) (hel : ∀ (fuel : Nat) (cs : List Value) (x : DataW H × List MemPlace), DataW.trod enc P w base spare held fuel t1 cs = some x → ∃ e : Ent32, e.ok ∧ cs = entC e)
    {b : Nat} {v : Value} (hok : Value.okWide P w .any b t v) {d : DataW H} {p : List MemPlace} (h : DataW.Trod enc P w base spare held t v d p) :
    ∃ es : List Ent32, FS w 36 v es.length (es.flatMap entC) ∧ (∀ e ∈ es, e.ok) := by
  obtain ⟨a, len, cap, rfl⟩ := okWide_slice ht hok
  obtain ⟨fuel, hf⟩ := h
  have hf' : DataW.trod enc P w base spare held fuel t [.slice a len cap] = some (d, p) := hf
  rcases open_slice ht hf' with ⟨hcs, _⟩ | ⟨a, len, cap, m, n, D, Pl, hcs, _, hl, hm, hmm, _, hx⟩
  · simp at hcs
    obtain ⟨rfl, rfl, rfl⟩ := hcs
    exact ⟨[], ⟨⟨rfl, none, 0, rfl, .inl rfl⟩, none, 0, rfl, Nat.le_refl _⟩, fun e he => by simp at he⟩
  · simp at hcs
    obtain ⟨rfl, rfl, rfl⟩ := hcs
    have hlm : len ≤ m := by rw [hmm]; split <;> omega
    have hall : ∀ i, i < len → ∃ e : Ent32, e.ok ∧ ∀ k u, (entC e)[k]? = some u → w.cell? (a.add (i * 36 + k)) = some u := by
      intro i hi
      obtain ⟨cs', hc, htr⟩ := hx i (by omega)
      rw [hct] at hc
      obtain ⟨e, he, rfl⟩ := hel _ _ _ htr
      obtain ⟨_, _, hcell⟩ := World.cells?_some hc
      refine ⟨e, he, fun k u hu => ?_⟩
      have hk : k < 36 := by have := (List.getElem?_eq_some_iff.1 hu).1; rw [entC_length e he] at this; exact this
      have h0 := hcell k hk
      rw [Addr.add_add, hu] at h0
      exact h0
    obtain ⟨Z, hZ⟩ := choose_lt (α := Ent32) hall
    have hzl : ∀ e ∈ (List.range len).map Z, (entC e).length = 36 := fun e he => by
      obtain ⟨i, hi, rfl⟩ := List.mem_map.1 he
      exact entC_length _ (hZ i (List.mem_range.1 hi)).1
    refine ⟨(List.range len).map Z, ⟨⟨flat_length _ hzl, some a, cap, by simp, ?_⟩, some a, cap, by simp, by simpa using hl⟩, fun e he => ?_⟩
    · by_cases h0 : len = 0
      · left; simpa using h0
      · right
        obtain ⟨b, off, spot⟩ := a
        obtain ⟨ho, hz0⟩ := hZ 0 (by omega)
        have hspot : spot = none := by
          have := hz0 0 (.int .i64 (Z 0).seq) rfl
          simpa [Addr.add] using World.cell?_spot this
        subst hspot
        refine ⟨b, off, rfl, fun j u hu => ?_⟩
        have hj : j < len * 36 := by
          have := (List.getElem?_eq_some_iff.1 hu).1
          rw [flat_length _ hzl] at this
          simpa using this
        have hj2 : j / 36 < len := by omega
        have hg : ((List.range len).map Z)[j / 36]? = some (Z (j / 36)) := by simp [hj2]
        have hfg := flat_get _ hzl (j / 36) (j % 36) _ hg (Nat.mod_lt _ (by decide))
        rw [show j / 36 * 36 + j % 36 = j by omega, hu] at hfg
        have := (hZ (j / 36) hj2).2 (j % 36) u hfg.symm
        rw [add_place, show j / 36 * 36 + j % 36 = j by omega] at this
        exact this
    · obtain ⟨i, hi, rfl⟩ := List.mem_map.1 he
      exact (hZ i (List.mem_range.1 hi)).1
end
end Go.Proofs.Ytkdflpdemoaifaa
