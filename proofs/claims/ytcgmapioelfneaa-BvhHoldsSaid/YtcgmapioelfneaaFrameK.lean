/- Arguments made of numbers and truth values alone, however they lie in one another: opened as rows of cells. No condition. -/
import Derived.Test.YtcgmapioelfneaaFrameC
import Derived.Test.YtcgmapioelfneaaSymX
namespace Go.Proofs.Ytcgmapioelfneaa
open Go.RowKit Go.ChangeAt Go.ChangeShapes Go.WideShapes Go.Deep
set_option maxRecDepth 100000
inductive Kd where
  | int (k : IntKind)
  | bool
def Kd.ok : Kd → Value → Prop
  | .int k, v => ∃ z, v = .int k z ∧ (Lit.int k z).wf = true
  | .bool, v => ∃ b, v = .bool b
/-- The cells are of these kinds. -/
def Flat : List Kd → List Value → Prop
  | [], [] => True
  | k :: ks, v :: vs => k.ok v ∧ Flat ks vs
  | _, _ => False
theorem Flat.len : ∀ {ks : List Kd} {vs : List Value}, Flat ks vs → vs.length = ks.length
  | [], [], _ => rfl
  | _ :: _, _ :: _, h => by simp [Flat.len h.2]
theorem Flat.app : ∀ {ks ks' : List Kd} {vs vs' : List Value}, Flat ks vs → Flat ks' vs' → Flat (ks ++ ks') (vs ++ vs')
  | [], _, [], _, _, h2 => h2
  | _ :: _, _, _ :: _, _, h, h2 => ⟨h.1, Flat.app h.2 h2⟩
def flatFs (P : Program) (g : TypeId → Option (List Kd)) : Nat → List Field → Option (List Kd)
  | _, [] => some []
  | off, f :: fs => match g f.type with
    | some ks => if f.offset = off ∧ P.cellsOf f.type = ks.length then (flatFs P g (off + ks.length) fs).map (ks ++ ·) else none
    | none => none
/-- The kinds of a type's cells. -/
def flatT (P : Program) : Nat → TypeId → Option (List Kd)
  | 0, _ => none
  | n + 1, t => match P.underlying t with
    | some (.int k) => some [.int k]
    | some .bool => some [.bool]
    | some (.array m e) => match flatT P n e with
      | some ks => if P.cellsOf e = ks.length then some (List.replicate m ks).flatten else none
      | none => none
    | some (.struct fs) => flatFs P (flatT P n) 0 fs.toList
    | _ => none
section
variable {H : Type} {enc : TypeId × Value → H} {P : Program} {w : World} {base : Nat} {spare : Nat → Bool} {held : Bool}
theorem flat_fields {g : TypeId → Option (List Kd)} {cs : List Value} {R : Field → Prop} (hg : ∀ f ks, R f → g f.type = some ks → P.cellsOf f.type = ks.length → Flat ks ((cs.drop f.offset).take ks.length)) :
    ∀ (fs : List Field) (off : Nat) (ks : List Kd), (∀ f ∈ fs, R f) → flatFs P g off fs = some ks → Flat ks ((cs.drop off).take ks.length)
  | [], off, ks, _, h => by cases h; simp [Flat]
  | f :: fs, off, ks, hR, h => by
    unfold flatFs at h
    cases hgf : g f.type with
    | none => simp [hgf] at h
    | some k1 =>
      simp only [hgf] at h
      split at h
      · rename_i hc
        obtain ⟨ho, hl⟩ := hc
        cases h2 : flatFs P g (off + k1.length) fs with
        | none => simp [h2] at h
        | some k2 =>
          simp only [h2, Option.map_some, Option.some.injEq] at h
          subst h
          have i1 := hg f k1 (hR f List.mem_cons_self) hgf hl
          have i2 := flat_fields hg fs (off + k1.length) k2 (fun f hf => hR f (List.mem_cons_of_mem _ hf)) h2
          rw [ho] at i1
          have := i1.app i2
          rw [List.length_append, List.take_add, List.drop_drop]
          exact this
      · cases h
theorem flat_array {ks : List Kd} {cs : List Value} : ∀ (m : Nat), (∀ i, i < m → Flat ks ((cs.drop (i * ks.length)).take ks.length)) → Flat (List.replicate m ks).flatten (cs.take (m * ks.length))
  | 0, _ => by simp [Flat]
  | m + 1, h => by
    have ih := flat_array m fun i hi => h i (by omega)
    have := ih.app (h m (by omega))
    rw [List.replicate_succ', List.flatten_append, Nat.add_mul, Nat.one_mul, List.take_add]
    simpa using this
theorem flat_of_trod : ∀ (n : Nat) (t : TypeId) (ks : List Kd), flatT P n t = some ks → P.cellsOf t = ks.length → ∀ (fuel : Nat) (cs : List Value) (x : DataW H × List MemPlace), DataW.trod enc P w base spare held fuel t cs = some x → Flat ks cs
  | 0, t, ks, h, _, _, _, _, _ => by cases h
  | n + 1, t, ks, h, hc, fuel, cs, x, hx => by
    unfold flatT at h
    cases hu : P.underlying t with
    | none => simp [hu] at h
    | some d =>
      rw [hu] at h
      cases d with
      | int k =>
        simp only [Option.some.injEq] at h
        subst h
        obtain ⟨z, rfl, _, hw⟩ := DataW.trod_int hu hx
        exact ⟨⟨z, rfl, hw⟩, trivial⟩
      | bool =>
        simp only [Option.some.injEq] at h
        subst h
        obtain ⟨b, rfl, _⟩ := DataW.trod_bool hu hx
        exact ⟨⟨b, rfl⟩, trivial⟩
      | array m e =>
        cases h2 : flatT P n e with
        | none => simp [h2] at h
        | some k1 =>
          simp only [h2] at h
          split at h
          · rename_i hl
            simp only [Option.some.injEq] at h
            subst h
            obtain ⟨xs, m', _, _, hcl, hxl, hel⟩ := DataW.trod_array hu hx
            have hall : ∀ i, i < m → Flat k1 ((cs.drop (i * k1.length)).take k1.length) := fun i hi => by
              have hi2 := hel i hi
              rw [List.getElem?_eq_getElem (by omega : i < xs.length), hl] at hi2
              exact flat_of_trod n e k1 h2 hl _ _ _ hi2
            have := flat_array m hall
            rw [List.take_of_length_le] at this
            · exact this
            · rw [hcl, hc, List.length_flatten, List.map_replicate, List.sum_replicate_nat]
              exact Nat.le_refl _
          · cases h
      | struct fs =>
        simp only at h
        obtain ⟨xs, m', _, _, hcl, hxl, hel⟩ := DataW.trod_struct hu hx
        have := flat_fields (P := P) (g := flatT P n) (cs := cs) (R := fun f => ∃ i : Nat, fs[i]? = some f) (fun f k1 hR hg hl => by
          obtain ⟨i, hi⟩ := hR
          have hi2 := hel i f hi
          have hil : i < xs.length := by rw [hxl]; exact (Array.getElem?_eq_some_iff.1 hi).1
          rw [List.getElem?_eq_getElem hil, hl] at hi2
          exact flat_of_trod n f.type k1 hg hl _ _ _ hi2) fs.toList 0 ks (fun f hf => by
            obtain ⟨i, hi, he⟩ := List.getElem_of_mem hf
            exact ⟨i, by rw [Array.getElem?_eq_some_iff]; exact ⟨by simpa using hi, by simpa using he⟩⟩) h
        rw [List.drop_zero, List.take_of_length_le (by omega)] at this
        exact this
      | _ => simp at h
/-- A slice of such. -/
theorem open_flats {t t1 : TypeId} {ks : List Kd} (ht : P.underlying t = some (.slice t1)) (hk : flatT P 20 t1 = some ks) (hc : P.cellsOf t1 = ks.length) (hpos : 0 < ks.length)
    {b : Nat} {v : Value} (hok : Value.okWide P w .any b t v) {d : DataW H} {p : List MemPlace} (h : DataW.Trod enc P w base spare held t v d p) :
    ∃ rs : List (List Value), FS w ks.length v rs.length (rs.flatMap id) ∧ (∀ r ∈ rs, Flat ks r) := by
  obtain ⟨a, len, cap, rfl⟩ := okWide_slice ht hok
  obtain ⟨fuel, hf⟩ := h
  have hf' : DataW.trod enc P w base spare held fuel t [.slice a len cap] = some (d, p) := hf
  rcases open_slice ht hf' with ⟨hcs, _⟩ | ⟨a, len, cap, m, n, D, Pl, hcs, _, hl, hm, hmm, _, hx⟩
  · simp at hcs
    obtain ⟨rfl, rfl, rfl⟩ := hcs
    exact ⟨[], ⟨⟨by simp, none, 0, rfl, .inl rfl⟩, none, 0, rfl, Nat.le_refl _⟩, fun e he => by simp at he⟩
  · simp at hcs
    obtain ⟨rfl, rfl, rfl⟩ := hcs
    have hlm : len ≤ m := by rw [hmm]; split <;> omega
    have hall : ∀ i, i < len → ∃ r : List Value, Flat ks r ∧ ∀ k u, r[k]? = some u → w.cell? (a.add (i * ks.length + k)) = some u := by
      intro i hi
      obtain ⟨cs', hc', htr⟩ := hx i (by omega)
      rw [hc] at hc'
      have he := flat_of_trod 20 t1 ks hk hc _ _ _ htr
      obtain ⟨_, _, hcell⟩ := World.cells?_some hc'
      refine ⟨cs', he, fun k u hu => ?_⟩
      have hk : k < ks.length := by have := (List.getElem?_eq_some_iff.1 hu).1; rw [he.len] at this; exact this
      have h0 := hcell k hk
      rw [Addr.add_add, hu] at h0
      exact h0
    obtain ⟨Z, hZ⟩ := choose_lt (α := List Value) hall
    have hzl : ∀ r ∈ (List.range len).map Z, (id r).length = ks.length := fun r hr => by
      obtain ⟨i, hi, rfl⟩ := List.mem_map.1 hr
      exact (hZ i (List.mem_range.1 hi)).1.len
    refine ⟨(List.range len).map Z, ⟨⟨flat_length _ hzl, some a, cap, by simp, ?_⟩, some a, cap, by simp, by simpa using hl⟩, fun e he => ?_⟩
    · by_cases h0 : len = 0
      · left; simpa using h0
      · right
        obtain ⟨b, off, spot⟩ := a
        obtain ⟨ho, hz0⟩ := hZ 0 (by omega)
        have hspot : spot = none := by
          have h1 : 0 < (Z 0).length := by rw [ho.len]; exact hpos
          have := hz0 0 (Z 0)[0] (List.getElem?_eq_getElem h1)
          simpa [Addr.add] using World.cell?_spot this
        subst hspot
        refine ⟨b, off, rfl, fun j u hu => ?_⟩
        have hj : j < len * ks.length := by
          have := (List.getElem?_eq_some_iff.1 hu).1
          rw [flat_length _ hzl] at this
          simpa using this
        have hj2 : j / ks.length < len := by rw [Nat.div_lt_iff_lt_mul hpos]; exact hj
        have hg : ((List.range len).map Z)[j / ks.length]? = some (Z (j / ks.length)) := by simp [hj2]
        have hfg := flat_get _ hzl (j / ks.length) (j % ks.length) _ hg (Nat.mod_lt _ hpos)
        rw [show j / ks.length * ks.length + j % ks.length = j by rw [Nat.mul_comm]; exact Nat.div_add_mod j ks.length, hu] at hfg
        have := (hZ (j / ks.length) hj2).2 (j % ks.length) u hfg.symm
        rw [add_place, show j / ks.length * ks.length + j % ks.length = j by rw [Nat.mul_comm]; exact Nat.div_add_mod j ks.length] at this
        exact this
    · obtain ⟨i, hi, rfl⟩ := List.mem_map.1 he
      exact (hZ i (List.mem_range.1 hi)).1
end
end Go.Proofs.Ytcgmapioelfneaa
