/- Arguments, opened: slices of numbers, slices of slices, a struct of three arrays and numbers. No condition. -/
import Derived.Test.YtlhedoodbadmgaaFrame
import Derived.Test.YtlhedoodbadmgaaSymG
import Derived.Deep.Slices
import Derived.Deep.Strs
namespace Go.Proofs.Ytlhedoodbadmgaa
open Go.ChangeShapes Go.WideShapes Go.ChangeAt Go.RowKit Go.Deep
section
variable {H : Type} {enc : TypeId × Value → H} {P : Program} {w : World} {base : Nat} {spare : Nat → Bool} {held : Bool}
theorem plain_addr {a : Addr} {len : Nat} {V : Nat → Value} (hl : 0 < len) (h : ∀ i, i < len → w.cell? (a.add i) = some (V i)) : ∃ b off, a = ⟨b, off, none⟩ ∧ ∀ i, i < len → w.cell? ⟨b, off + i, none⟩ = some (V i) := by
  obtain ⟨b, off, spot⟩ := a
  have hspot : spot = none := by simpa [Addr.add] using World.cell?_spot (h 0 hl)
  subst hspot
  exact ⟨b, off, rfl, fun i hi => by rw [← add_place]; exact h i hi⟩
/-- Slices of numbers. -/
theorem fs_of_trod {k : IntKind} {m : Nat} (hk : ∀ z : Int, (Lit.int k z).wf = true → ∃ x : BitVec m, z = bvi x) {t e : TypeId} (ht : P.underlying t = some (.slice e)) (he : P.underlying e = some (.int k)) (hc : P.cellsOf e = 1) {fuel : Nat} {v : Value} {x : DataW H × List MemPlace}
    (h : DataW.trod enc P w base spare held fuel t [v] = some x) : ∃ l : List (BitVec m), FS w 1 v l.length (valsL k l) ∧ l.length ≤ maxLen := by
  rcases open_ints ht he hc h with ⟨hcs, _⟩ | ⟨a, len, cap, zs, hcs, _, hl, hm, hz, _, hcell, hwz⟩
  · simp at hcs
    subst hcs
    exact ⟨[], ⟨⟨by simp [valsL], none, 0, rfl, .inl rfl⟩, none, 0, rfl, Nat.le_refl _⟩, Nat.zero_le _⟩
  · simp at hcs
    subst hcs
    have hzl : len ≤ zs.length := by rw [hz]; split <;> omega
    have hall : ∀ z ∈ zs, ∃ b : BitVec m, z = bvi b := fun z hz => hk z (hwz z hz)
    refine ⟨List.ofFn fun i : Fin len => Classical.choose (hall zs[i.1] (List.getElem_mem (by omega))), ?_⟩
    have hval : ∀ i (hi : i < len), zs.getD i 0 = bvi (Classical.choose (hall zs[i] (List.getElem_mem (by omega)))) := fun i hi => by
      rw [← Classical.choose_spec (hall zs[i] (List.getElem_mem (by omega)))]
      simp [List.getD, List.getElem?_eq_getElem (show i < zs.length by omega)]
    refine ⟨⟨⟨by simp [valsL], some a, cap, by simp, ?_⟩, some a, cap, by simp, by simpa using hl⟩, by simp; omega⟩
    by_cases h0 : len = 0
    · left; simpa using h0
    · right
      obtain ⟨b, off, rfl, hcell2⟩ := plain_addr (w := w) (a := a) (len := len) (V := fun i => .int k (zs.getD i 0)) (by omega) (fun i hi => hcell i (by omega))
      refine ⟨b, off, rfl, fun j u hu => ?_⟩
      obtain ⟨hj, rfl⟩ := valsL_get hu
      simp at hj
      rw [hcell2 j hj, hval j hj]
      congr 3
      simp [gt, List.getD, hj]
theorem open_fs {k : IntKind} {m : Nat} (hk : ∀ z : Int, (Lit.int k z).wf = true → ∃ x : BitVec m, z = bvi x) {t e : TypeId} (ht : P.underlying t = some (.slice e)) (he : P.underlying e = some (.int k)) (hc : P.cellsOf e = 1) {b : Nat} {v : Value} (hok : Value.okWide P w .any b t v) {d : DataW H} {p : List MemPlace} (h : DataW.Trod enc P w base spare held t v d p) :
    ∃ l : List (BitVec m), FS w 1 v l.length (valsL k l) ∧ l.length ≤ maxLen := by
  obtain ⟨a, len, cap, rfl⟩ := okWide_slice ht hok
  obtain ⟨fuel, hf⟩ := h
  exact fs_of_trod hk ht he hc (v := .slice a len cap) hf
end
end Go.Proofs.Ytlhedoodbadmgaa
