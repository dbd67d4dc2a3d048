/- Arguments, opened: slices of numbers, slices of slices, a struct of three arrays and numbers. No condition. Arguments of ints, opened. -/
import Derived.Test.YtlhedoodbadmgaaFrame
import Derived.Test.YtlhedoodbadmgaaSymG
import Derived.Deep.Slices
import Derived.Deep.Strs
namespace Go.Proofs.Ytlhedoodbadmgaa
open Go.ChangeShapes Go.WideShapes Go.ChangeAt Go.RowKit Go.Deep
section
variable {H : Type} {enc : TypeId × Value → H} {P : Program} {w : World} {base : Nat} {spare : Nat → Bool} {held : Bool}
theorem plain_addr {a : Addr} {len : Nat} {V : Nat → Value} (hl : 0 < len) (h : ∀ i, i < len → w.cell? (a.add i) = some (V i)) : ∃ b off, a = ⟨b, off, none⟩ ∧ ∀ i, i < len → w.cell? ⟨b, off + i, none⟩ = some (V i) := by
  obtain ⟨b, off, spot⟩ := a
  have hspot : spot = none := by simpa [Addr.add] using World.cell?_spot (h 0 hl)
  subst hspot
  exact ⟨b, off, rfl, fun i hi => by rw [← add_place]; exact h i hi⟩
/-- Slices of numbers. -/
theorem fs_of_trod {k : IntKind} {m : Nat} (hk : ∀ z : Int, (Lit.int k z).wf = true → ∃ x : BitVec m, z = bvi x) {t e : TypeId} (ht : P.underlying t = some (.slice e)) (he : P.underlying e = some (.int k)) (hc : P.cellsOf e = 1) {fuel : Nat} {v : Value} {x : DataW H × List MemPlace}
    (h : DataW.trod enc P w base spare held fuel t [v] = some x) : ∃ l : List (BitVec m), FS w 1 v l.length (valsL k l) ∧ l.length ≤ maxLen := by
  rcases open_ints ht he hc h with ⟨hcs, _⟩ | ⟨a, len, cap, zs, hcs, _, hl, hm, hz, _, hcell, hwz⟩
  · simp at hcs
    subst hcs
    exact ⟨[], ⟨⟨by simp [valsL], none, 0, rfl, .inl rfl⟩, none, 0, rfl, Nat.le_refl _⟩, Nat.zero_le _⟩
  · simp at hcs
    subst hcs
    have hzl : len ≤ zs.length := by rw [hz]; split <;> omega
    have hall : ∀ z ∈ zs, ∃ b : BitVec m, z = bvi b := fun z hz => hk z (hwz z hz)
    refine ⟨List.ofFn fun i : Fin len => Classical.choose (hall zs[i.1] (List.getElem_mem (by omega))), ?_⟩
    have hval : ∀ i (hi : i < len), zs.getD i 0 = bvi (Classical.choose (hall zs[i] (List.getElem_mem (by omega)))) := fun i hi => by
      rw [← Classical.choose_spec (hall zs[i] (List.getElem_mem (by omega)))]
      simp [List.getD, List.getElem?_eq_getElem (show i < zs.length by omega)]
    refine ⟨⟨⟨by simp [valsL], some a, cap, by simp, ?_⟩, some a, cap, by simp, by simpa using hl⟩, by simp; omega⟩
    by_cases h0 : len = 0
    · left; simpa using h0
    · right
      obtain ⟨b, off, rfl, hcell2⟩ := plain_addr (w := w) (a := a) (len := len) (V := fun i => .int k (zs.getD i 0)) (by omega) (fun i hi => hcell i (by omega))
      refine ⟨b, off, rfl, fun j u hu => ?_⟩
      obtain ⟨hj, rfl⟩ := valsL_get hu
      simp at hj
      rw [hcell2 j hj, hval j hj]
      congr 3
      simp [gt, List.getD, hj]
theorem open_fs {k : IntKind} {m : Nat} (hk : ∀ z : Int, (Lit.int k z).wf = true → ∃ x : BitVec m, z = bvi x) {t e : TypeId} (ht : P.underlying t = some (.slice e)) (he : P.underlying e = some (.int k)) (hc : P.cellsOf e = 1) {b : Nat} {v : Value} (hok : Value.okWide P w .any b t v) {d : DataW H} {p : List MemPlace} (h : DataW.Trod enc P w base spare held t v d p) :
    ∃ l : List (BitVec m), FS w 1 v l.length (valsL k l) ∧ l.length ≤ maxLen := by
  obtain ⟨a, len, cap, rfl⟩ := okWide_slice ht hok
  obtain ⟨fuel, hf⟩ := h
  exact fs_of_trod hk ht he hc (v := .slice a len cap) hf
/-- Slices of slices of bytes. -/
def FSS (w : World) (v : Value) (ds : List (List (BitVec 8))) : Prop := ∃ ps, FS w 1 v ds.length ps ∧ ∀ (i : Nat) d, ds[i]? = some d → ∃ p, ps[i]? = some p ∧ FS w 1 p d.length (valsL .u8 d) ∧ d.length ≤ maxLen
theorem open_fss {t t1 e : TypeId} (ht : P.underlying t = some (.slice t1)) (ht1 : P.underlying t1 = some (.slice e)) (he : P.underlying e = some (.int .u8)) (hc1 : P.cellsOf t1 = 1) (hc : P.cellsOf e = 1) {b : Nat} {v : Value} (hok : Value.okWide P w .any b t v) {d : DataW H} {p : List MemPlace} (h : DataW.Trod enc P w base spare held t v d p) :
    ∃ ds : List (List (BitVec 8)), FSS w v ds ∧ ds.length ≤ maxLen := by
  obtain ⟨a, len, cap, rfl⟩ := okWide_slice ht hok
  obtain ⟨fuel, hf⟩ := h
  have hf : DataW.trod enc P w base spare held fuel t [.slice a len cap] = some (d, p) := hf
  rcases open_slice1 ht hc1 hf with ⟨hcs, _⟩ | ⟨a, len, cap, m, n, V, D, Pl, hcs, _, hl, hm, hmm, _, hV⟩
  · simp at hcs
    obtain ⟨rfl, rfl, rfl⟩ := hcs
    exact ⟨[], ⟨[], ⟨⟨by simp, none, 0, rfl, .inl rfl⟩, none, 0, rfl, Nat.le_refl _⟩, fun i d h => by simp at h⟩, Nat.zero_le _⟩
  · simp at hcs
    obtain ⟨rfl, rfl, rfl⟩ := hcs
    have hml : len ≤ m := by rw [hmm]; split <;> omega
    have hel : ∀ i, i < len → ∃ l : List (BitVec 8), FS w 1 (V i) l.length (valsL .u8 l) ∧ l.length ≤ maxLen := fun i hi => fs_of_trod bv8_of ht1 he hc (hV i (by omega)).2
    refine ⟨List.ofFn fun i : Fin len => Classical.choose (hel i.1 i.2), ⟨List.ofFn fun i : Fin len => V i.1, ⟨⟨by simp, some a, cap, by simp, ?_⟩, some a, cap, by simp, by simpa using hl⟩, fun i d hd => ?_⟩, by simp; omega⟩
    · by_cases h0 : len = 0
      · left; simpa using h0
      · right
        obtain ⟨b, off, rfl, hcell⟩ := plain_addr (w := w) (a := a) (len := len) (V := V) (by omega) (fun i hi => (hV i (by omega)).1)
        refine ⟨b, off, rfl, fun j u hu => ?_⟩
        have hj : j < len := by have := (List.getElem?_eq_some_iff.1 hu).1; simpa using this
        rw [hcell j hj]
        simp [hj] at hu
        rw [hu]
    · have hi : i < len := by have := (List.getElem?_eq_some_iff.1 hd).1; simpa using this
      simp [hi] at hd
      subst hd
      refine ⟨V i, by simp [hi], ?_⟩
      exact Classical.choose_spec (hel i hi)
/-- A struct of an array, a number, an array. -/
theorem open_seed {t : TypeId} {f0 f1 f2 : Field} {n0 n2 : Nat} {e0 e2 : TypeId} (ht : P.underlying t = some (.struct #[f0, f1, f2])) (h0 : P.underlying f0.type = some (.array n0 e0)) (h2 : P.underlying f2.type = some (.array n2 e2)) (h1 : P.underlying f1.type = some (.int .u32)) (g0 : P.underlying e0 = some (.int .u8)) (g2 : P.underlying e2 = some (.int .u8))
    (c0 : P.cellsOf e0 = 1) (c2 : P.cellsOf e2 = 1) (d0 : P.cellsOf f0.type = n0) (d1 : P.cellsOf f1.type = 1) (d2 : P.cellsOf f2.type = n2) (o0 : f0.offset = 0) (o1 : f1.offset = n0) (o2 : f2.offset = n0 + 1) (hsum : P.cellsOf t = n0 + 1 + n2)
    {b : Nat} {v : Value} (hok : Value.okWide P w .any b t v) {d : DataW H} {p : List MemPlace} (h : DataW.Trod enc P w base spare held t v d p) :
    ∃ (x : List (BitVec 8)) (c : BitVec 32) (y : List (BitVec 8)), x.length = n0 ∧ y.length = n2 ∧ v = .agg (vals .u8 x ++ (#[.int .u32 (bvi c)] ++ vals .u8 y)) := by
  unfold Value.okWide at hok
  rw [ht] at hok
  obtain ⟨cs, rfl, _, _⟩ := hok
  obtain ⟨fuel, hf⟩ := h
  obtain ⟨y0, y1, y2, n, _, hl, k0, k1, k2⟩ := trod_struct3 ht hf
  obtain ⟨x, hx, ex⟩ := cells_of_trod bv8_of h0 g0 c0 d0 k0
  obtain ⟨y, hy, ey⟩ := cells_of_trod bv8_of h2 g2 c2 d2 k2
  obtain ⟨z, ez, _, wz⟩ := DataW.trod_int h1 k1
  obtain ⟨c, rfl⟩ := bv32_of z wz
  refine ⟨x, c, y, hx, hy, ?_⟩
  have hcs : (Value.agg cs).cells.toList = cs.toList := rfl
  rw [hcs, o0, d0] at ex
  rw [hcs, o2, d2] at ey
  rw [hcs, o1, d1] at ez
  rw [hcs, hsum] at hl
  congr 1
  apply Array.ext'
  have e1 : cs.toList = cs.toList.take n0 ++ ((cs.toList.drop n0).take 1 ++ (cs.toList.drop (n0 + 1)).take n2) := by
    rw [List.take_of_length_le (l := cs.toList.drop (n0 + 1)) (by simp at hl ⊢; omega), ← List.drop_drop, List.take_append_drop, List.take_append_drop]
  rw [List.drop_zero] at ex
  rw [e1, ex, ey, ez]
  simp [vals, valsL]
end
end Go.Proofs.Ytlhedoodbadmgaa
namespace Go.Proofs.Ytlhedoodbadmgaa
set_option maxRecDepth 100000
section
variable {H : Type} {enc : TypeId × Value → H} {P : Program} {w : World} {base : Nat} {spare : Nat → Bool} {held : Bool}
/-- The values of ints. -/
def ivL (l : List Int) : List Value := l.map (Value.int .i64)
def ivs (l : List Int) : Array Value := (ivL l).toArray
def In64 (z : Int) : Prop := -9223372036854775808 ≤ z ∧ z < 9223372036854775808
theorem wf64 {z : Int} (h : (Lit.int .i64 z).wf = true) : In64 z := by
  have := bd_of_wf h
  unfold In64
  omega
/-- Cells that read as so many ints. -/
theorem icells_of_trod {t e : TypeId} {n : Nat} (ht : P.underlying t = some (.array n e)) (he : P.underlying e = some (.int .i64))
    (hce : P.cellsOf e = 1) (hct : P.cellsOf t = n) {fuel : Nat} {cs : List Value} {x : DataW H × List MemPlace} (h : DataW.trod enc P w base spare held fuel t cs = some x) :
    ∃ l : List Int, l.length = n ∧ cs = ivL l ∧ ∀ z ∈ l, In64 z := by
  obtain ⟨xs, q, rfl, rfl, hl, hxl, hx⟩ := DataW.trod_array ht h
  rw [hct] at hl
  have hall : ∀ i, i < n → ∃ z : Int, cs[i]? = some (.int .i64 z) ∧ In64 z := by
    intro i hi
    have h1 := hx i hi
    rw [hce, Nat.mul_one] at h1
    have h2 : (cs.drop i).take 1 = [cs[i]'(by omega)] := by
      rw [List.drop_eq_getElem_cons (by omega)]; rfl
    rw [h2, List.getElem?_eq_getElem (by omega)] at h1
    obtain ⟨z, e0, _, wz⟩ := DataW.trod_int he h1
    refine ⟨z, ?_, wf64 wz⟩
    rw [List.getElem?_eq_getElem (by omega)]
    simp at e0
    rw [e0]
  refine ⟨List.ofFn fun i : Fin n => Classical.choose (hall i.1 i.2), by simp, ?_, ?_⟩
  · apply List.ext_getElem?
    intro i
    by_cases hi : i < n
    · rw [(Classical.choose_spec (hall i hi)).1]
      simp [ivL, hi]
    · rw [List.getElem?_eq_none (by omega), List.getElem?_eq_none (by simp [ivL]; omega)]
  · intro z hz
    obtain ⟨i, rfl⟩ := List.mem_ofFn.1 hz
    exact (Classical.choose_spec (hall i.1 i.2)).2
theorem open_arrI {t e : TypeId} {n : Nat} (ht : P.underlying t = some (.array n e)) (he : P.underlying e = some (.int .i64))
    (hce : P.cellsOf e = 1) (hct : P.cellsOf t = n) {b : Nat} {v : Value} (hok : Value.okWide P w .any b t v) {d : DataW H} {p : List MemPlace} (h : DataW.Trod enc P w base spare held t v d p) :
    ∃ l : List Int, l.length = n ∧ v = .agg (ivs l) ∧ ∀ z ∈ l, In64 z := by
  unfold Value.okWide at hok
  rw [ht] at hok
  obtain ⟨cs, rfl, _, _⟩ := hok
  obtain ⟨fuel, hf⟩ := h
  obtain ⟨l, hl, hcs, hz⟩ := icells_of_trod ht he hce hct hf
  refine ⟨l, hl, ?_, hz⟩
  have : cs.toList = ivL l := hcs
  rw [ivs, ← this, Array.toArray_toList]
theorem four_of {l : List Int} (h : l.length = 4) : ∃ a b c d, l = [a, b, c, d] := by
  match l, h with
  | [a, b, c, d], _ => exact ⟨a, b, c, d, rfl⟩
theorem two_of {l : List Int} (h : l.length = 2) : ∃ a b, l = [a, b] := by
  match l, h with
  | [a, b], _ => exact ⟨a, b, rfl⟩
end
end Go.Proofs.Ytlhedoodbadmgaa
