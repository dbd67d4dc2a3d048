/- A law's scene, view and making, from their cells. No condition. -/
import Derived.Test.YtihbiejgebmeaaaFrameR
import Derived.Test.YtihbiejgebmeaaaRecM9
namespace Go.Proofs.Ytihbiejgebmeaaa
open Go.RowKit Go.ChangeAt Go.ChangeShapes Go.WideShapes Go.Deep
set_option maxRecDepth 100000
section
variable {H : Type} {enc : TypeId × Value → H} {P : Program} {w : World} {base : Nat} {spare : Nat → Bool} {held : Bool}
/-- A slice of rows of cells, each of which tells something. -/
theorem rows_of_trod {α : Type} [Inhabited α] (f : α → List Value) (sz : Nat) (Q : α → Prop) {t t1 : TypeId} (ht : P.underlying t = some (.slice t1)) (hc : P.cellsOf t1 = sz) (hpos : 0 < sz) (hfl : ∀ a, (f a).length = sz)
    (hel : ∀ (fuel : Nat) (cs : List Value) (x : DataW H × List MemPlace), DataW.trod enc P w base spare held fuel t1 cs = some x → ∃ a, Q a ∧ cs = f a)
    {fuel : Nat} {vs : List Value} {x : DataW H × List MemPlace} (hf' : DataW.trod enc P w base spare held fuel t vs = some x) :
    ∃ (v : Value) (ys : List α), vs = [v] ∧ FS w sz v ys.length (ys.flatMap f) ∧ ∀ a ∈ ys, Q a := by
  obtain ⟨d, p⟩ := x
  rcases open_slice ht hf' with ⟨hcs, _⟩ | ⟨a, len, cap, m, n, D, Pl, hcs, _, hl, hm, hmm, _, hx⟩
  · exact ⟨_, [], hcs, ⟨⟨by simp, none, 0, rfl, .inl rfl⟩, none, 0, rfl, Nat.le_refl _⟩, fun e he => by simp at he⟩
  · have hlm : len ≤ m := by rw [hmm]; split <;> omega
    have hall : ∀ i, i < len → ∃ r : α, Q r ∧ ∀ k u, (f r)[k]? = some u → w.cell? (a.add (i * sz + k)) = some u := by
      intro i hi
      obtain ⟨cs', hc', htr⟩ := hx i (by omega)
      rw [hc] at hc'
      obtain ⟨r, hr, rfl⟩ := hel _ _ _ htr
      obtain ⟨_, _, hcell⟩ := World.cells?_some hc'
      refine ⟨r, hr, fun k u hu => ?_⟩
      have hk : k < sz := by have := (List.getElem?_eq_some_iff.1 hu).1; rw [hfl] at this; exact this
      have h0 := hcell k hk
      rw [Addr.add_add, hu] at h0
      exact h0
    obtain ⟨Z, hZ⟩ := choose_lt (α := α) hall
    have hzl : ∀ r ∈ (List.range len).map Z, (f r).length = sz := fun r _ => hfl r
    refine ⟨_, (List.range len).map Z, hcs, ⟨⟨flat_length _ hzl, some a, cap, by simp, ?_⟩, some a, cap, by simp, by simpa using hl⟩, fun e he => ?_⟩
    · by_cases h0 : len = 0
      · left; simpa using h0
      · right
        obtain ⟨b, off, spot⟩ := a
        obtain ⟨ho, hz0⟩ := hZ 0 (by omega)
        have hspot : spot = none := by
          have h1 : 0 < (f (Z 0)).length := by rw [hfl]; exact hpos
          have := hz0 0 (f (Z 0))[0] (List.getElem?_eq_getElem h1)
          simpa [Addr.add] using World.cell?_spot this
        subst hspot
        refine ⟨b, off, rfl, fun j u hu => ?_⟩
        have hj : j < len * sz := by
          have := (List.getElem?_eq_some_iff.1 hu).1
          rw [flat_length _ hzl] at this
          simpa using this
        have hj2 : j / sz < len := by rw [Nat.div_lt_iff_lt_mul hpos]; exact hj
        have hg : ((List.range len).map Z)[j / sz]? = some (Z (j / sz)) := by simp [hj2]
        have hfg := flat_get _ hzl (j / sz) (j % sz) _ hg (Nat.mod_lt _ hpos)
        rw [show j / sz * sz + j % sz = j by rw [Nat.mul_comm]; exact Nat.div_add_mod j sz, hu] at hfg
        have := (hZ (j / sz) hj2).2 (j % sz) u hfg.symm
        rw [add_place, show j / sz * sz + j % sz = j by rw [Nat.mul_comm]; exact Nat.div_add_mod j sz] at this
        exact this
    · obtain ⟨i, hi, rfl⟩ := List.mem_map.1 he
      exact (hZ i (List.mem_range.1 hi)).1
end
theorem ok_of_wf {z : Int} (h : (Lit.int .i64 z).wf = true) : okI z := by
  have := wf64 h
  unfold In64 at this
  exact this
instance : Inhabited P3 := ⟨⟨0, 0, 0⟩⟩
instance : Inhabited TriR := ⟨⟨⟨0, 0, 0⟩, ⟨0, 0, 0⟩, ⟨0, 0, 0⟩, 0, 0, 0, 0, 0, 0, 0, 0, 0, 0⟩⟩
instance : Inhabited MatR := ⟨⟨0, ⟨0, 0, 0⟩, 0⟩⟩
instance : Inhabited LitR := ⟨⟨0, ⟨0, 0, 0⟩, ⟨0, 0, 0⟩, ⟨0, 0, 0⟩, ⟨0, 0, 0⟩⟩⟩
instance : Inhabited TexR := ⟨⟨0, .slice none 0 0, []⟩⟩
def triKs : List Kd := List.replicate 18 (.int .i64) ++ [.int .u8]
theorem tri_of_flatS (r : List Value) (h : Flat triKs r) : ∃ t : TriR, (∀ z ∈ t.z, okI z) ∧ r = t.c := by
  have hl : r.length = 19 := h.len
  match r, hl with
  | [a0, a1, a2, a3, a4, a5, a6, a7, a8, a9, a10, a11, a12, a13, a14, a15, a16, a17, a18], _ =>
    obtain ⟨⟨x0, rfl, w0⟩, ⟨x1, rfl, w1⟩, ⟨x2, rfl, w2⟩, ⟨x3, rfl, w3⟩, ⟨x4, rfl, w4⟩, ⟨x5, rfl, w5⟩, ⟨x6, rfl, w6⟩, ⟨x7, rfl, w7⟩, ⟨x8, rfl, w8⟩, ⟨x9, rfl, w9⟩, ⟨x10, rfl, w10⟩, ⟨x11, rfl, w11⟩, ⟨x12, rfl, w12⟩, ⟨x13, rfl, w13⟩, ⟨x14, rfl, w14⟩, ⟨x15, rfl, w15⟩, ⟨x16, rfl, w16⟩, ⟨x17, rfl, w17⟩, ⟨z, rfl, hz⟩, _⟩ := h
    obtain ⟨m, rfl⟩ := bv8_of z hz
    refine ⟨⟨⟨x0, x1, x2⟩, ⟨x3, x4, x5⟩, ⟨x6, x7, x8⟩, x9, x10, x11, x12, x13, x14, x15, x16, x17, m⟩, fun y hy => ?_, rfl⟩
    simp only [TriR.z, P3.l, List.cons_append, List.nil_append, List.mem_cons, List.not_mem_nil, or_false] at hy
    rcases hy with rfl | rfl | rfl | rfl | rfl | rfl | rfl | rfl | rfl | rfl | rfl | rfl | rfl | rfl | rfl | rfl | rfl | rfl | rfl
    · exact ok_of_wf w0
    · exact ok_of_wf w1
    · exact ok_of_wf w2
    · exact ok_of_wf w3
    · exact ok_of_wf w4
    · exact ok_of_wf w5
    · exact ok_of_wf w6
    · exact ok_of_wf w7
    · exact ok_of_wf w8
    · exact ok_of_wf w9
    · exact ok_of_wf w10
    · exact ok_of_wf w11
    · exact ok_of_wf w12
    · exact ok_of_wf w13
    · exact ok_of_wf w14
    · exact ok_of_wf w15
    · exact ok_of_wf w16
    · exact ok_of_wf w17
    · exact toNat8_ok m
theorem mat_of_flat (r : List Value) (h : Flat (List.replicate 5 (.int .i64)) r) : ∃ t : MatR, (∀ z ∈ t.z, okI z) ∧ r = t.c := by
  have hl : r.length = 5 := h.len
  match r, hl with
  | [a0, a1, a2, a3, a4], _ =>
    obtain ⟨⟨x0, rfl, w0⟩, ⟨x1, rfl, w1⟩, ⟨x2, rfl, w2⟩, ⟨x3, rfl, w3⟩, ⟨x4, rfl, w4⟩, _⟩ := h
    refine ⟨⟨x0, ⟨x1, x2, x3⟩, x4⟩, fun y hy => ?_, rfl⟩
    simp only [MatR.z, P3.l, List.cons_append, List.nil_append, List.mem_cons, List.not_mem_nil, or_false] at hy
    rcases hy with rfl | rfl | rfl | rfl | rfl
    · exact ok_of_wf w0
    · exact ok_of_wf w1
    · exact ok_of_wf w2
    · exact ok_of_wf w3
    · exact ok_of_wf w4
theorem lit_of_flat (r : List Value) (h : Flat (List.replicate 13 (.int .i64)) r) : ∃ t : LitR, (∀ z ∈ t.z, okI z) ∧ r = t.c := by
  have hl : r.length = 13 := h.len
  match r, hl with
  | [a0, a1, a2, a3, a4, a5, a6, a7, a8, a9, a10, a11, a12], _ =>
    obtain ⟨⟨x0, rfl, w0⟩, ⟨x1, rfl, w1⟩, ⟨x2, rfl, w2⟩, ⟨x3, rfl, w3⟩, ⟨x4, rfl, w4⟩, ⟨x5, rfl, w5⟩, ⟨x6, rfl, w6⟩, ⟨x7, rfl, w7⟩, ⟨x8, rfl, w8⟩, ⟨x9, rfl, w9⟩, ⟨x10, rfl, w10⟩, ⟨x11, rfl, w11⟩, ⟨x12, rfl, w12⟩, _⟩ := h
    refine ⟨⟨x0, ⟨x1, x2, x3⟩, ⟨x4, x5, x6⟩, ⟨x7, x8, x9⟩, ⟨x10, x11, x12⟩⟩, fun y hy => ?_, rfl⟩
    simp only [LitR.z, P3.l, List.cons_append, List.nil_append, List.mem_cons, List.not_mem_nil, or_false] at hy
    rcases hy with rfl | rfl | rfl | rfl | rfl | rfl | rfl | rfl | rfl | rfl | rfl | rfl | rfl
    · exact ok_of_wf w0
    · exact ok_of_wf w1
    · exact ok_of_wf w2
    · exact ok_of_wf w3
    · exact ok_of_wf w4
    · exact ok_of_wf w5
    · exact ok_of_wf w6
    · exact ok_of_wf w7
    · exact ok_of_wf w8
    · exact ok_of_wf w9
    · exact ok_of_wf w10
    · exact ok_of_wf w11
    · exact ok_of_wf w12
theorem p3_of_flat (r : List Value) (h : Flat (List.replicate 3 (.int .i64)) r) : ∃ p : P3, (∀ z ∈ p.l, okI z) ∧ r = p.c.toList := by
  have hl : r.length = 3 := h.len
  match r, hl with
  | [a0, a1, a2], _ =>
    obtain ⟨⟨x0, rfl, w0⟩, ⟨x1, rfl, w1⟩, ⟨x2, rfl, w2⟩, _⟩ := h
    refine ⟨⟨x0, x1, x2⟩, fun y hy => ?_, rfl⟩
    simp only [P3.l, List.mem_cons, List.not_mem_nil, or_false] at hy
    rcases hy with rfl | rfl | rfl
    · exact ok_of_wf w0
    · exact ok_of_wf w1
    · exact ok_of_wf w2
theorem words32_of_flats : ∀ (rs : List (List Value)), (∀ r ∈ rs, Flat [.int .u32] r) → ∃ l : List (BitVec 32), rs.flatMap id = valsL .u32 l ∧ l.length = rs.length
  | [], _ => ⟨[], rfl, rfl⟩
  | r :: rs, h => by
    obtain ⟨l, h1, h2⟩ := words32_of_flats rs fun r hr => h r (List.mem_cons_of_mem _ hr)
    have h0 := h r List.mem_cons_self
    have hl : r.length = 1 := h0.len
    match r, hl, h0 with
    | [a0], _, h0 =>
      obtain ⟨⟨z, rfl, hz⟩, _⟩ := h0
      obtain ⟨m, rfl⟩ := bv32_of z hz
      exact ⟨m :: l, by rw [List.flatMap_cons, h1]; rfl, by simp [h2]⟩
theorem bytes8_of_flats : ∀ (rs : List (List Value)), (∀ r ∈ rs, Flat [.int .u8] r) → ∃ l : List (BitVec 8), rs.flatMap id = valsL .u8 l ∧ l.length = rs.length
  | [], _ => ⟨[], rfl, rfl⟩
  | r :: rs, h => by
    obtain ⟨l, h1, h2⟩ := bytes8_of_flats rs fun r hr => h r (List.mem_cons_of_mem _ hr)
    have h0 := h r List.mem_cons_self
    have hl : r.length = 1 := h0.len
    match r, hl, h0 with
    | [a0], _, h0 =>
      obtain ⟨⟨z, rfl, hz⟩, _⟩ := h0
      obtain ⟨m, rfl⟩ := bv8_of z hz
      exact ⟨m :: l, by rw [List.flatMap_cons, h1]; rfl, by simp [h2]⟩
section
variable {H : Type} {enc : TypeId × Value → H} {w : World} {base : Nat} {spare : Nat → Bool} {held : Bool}
theorem open_view {b : Nat} {v : Value} (hok : Value.okWide Try.prog w .any b 33 v) {d : DataW H} {p : List MemPlace} (h : DataW.Trod enc Try.prog w base spare held 33 v d p) : ∃ V : ViewS, v = .agg V.c := by
  obtain ⟨cs, rfl, hfl⟩ := open_flat (ks := viewKs) (by kernel_rfl) (by kernel_rfl) (by kernel_rfl) hok h
  obtain ⟨V, rfl⟩ := view_of_flat cs hfl
  exact ⟨V, rfl⟩
theorem tex_of_trod {fuel : Nat} {cs : List Value} {x : DataW H × List MemPlace} (h : DataW.trod enc Try.prog w base spare held fuel 61 cs = some x) : ∃ t : TexR, (okI t.side ∧ (∀ p ∈ t.px, ∀ z ∈ p.l, okI z) ∧ FS w 3 t.sl t.px.length (pxL t.px)) ∧ cs = t.c := by
  obtain ⟨xs, m', _, _, hcl, hxl, hel⟩ := DataW.trod_struct Try.underlying61 h
  have hcl2 : cs.length = 2 := hcl
  have hxl2 : xs.length = 2 := hxl
  have s0 : Flat [.int .i64] ((cs.drop 0).take 1) := seg_flat (hel 0 _ rfl) (by omega) [.int .i64] (by kernel_rfl) (by kernel_rfl) 1 rfl
  have q1 := hel 1 _ rfl
  rw [List.getElem?_eq_getElem (by omega : 1 < xs.length)] at q1
  obtain ⟨u, ps, e1, f1, g1⟩ := rows_of_trod (fun p : P3 => p.c.toList) 3 (fun p => ∀ z ∈ p.l, okI z) Try.underlying59 (by kernel_rfl) (by decide) (fun _ => rfl)
    (fun fuel cs x h => p3_of_flat cs (flat_of_trod 20 _ (List.replicate 3 (.int .i64)) (by kernel_rfl) (by kernel_rfl) _ _ _ h)) q1
  have e1 : (cs.drop 1).take 1 = [u] := e1
  obtain ⟨z, rest, e0, wz⟩ : ∃ z r, (cs.drop 0).take 1 = [Value.int .i64 z] ∧ (r = 0 ∧ okI z) := by
    have hl : ((cs.drop 0).take 1).length = 1 := s0.len
    generalize (cs.drop 0).take 1 = r at *
    match r, hl, s0 with
    | [a0], _, s0 =>
      obtain ⟨⟨x0, rfl, w0⟩, _⟩ := s0
      exact ⟨x0, 0, rfl, rfl, ok_of_wf w0⟩
  refine ⟨⟨z, u, ps⟩, ⟨wz.2, g1, f1⟩, ?_⟩
  match cs, hcl2 with
  | [a, b], _ =>
    simp at e0 e1
    rw [e0, e1]
    rfl
theorem open_scene {b : Nat} {v : Value} (hok : Value.okWide Try.prog w .any b 42 v) {d : DataW H} {p : List MemPlace} (h : DataW.Trod enc Try.prog w base spare held 42 v d p) :
    ∃ (s : ScnR) (u : ScnV), v = .agg (scnA s u) ∧ s.num ∧ ScnFS w s u := by
  obtain ⟨fuel, hf⟩ := h
  have hu := Try.underlying42
  unfold Value.okWide at hok
  rw [hu] at hok
  obtain ⟨cs, rfl, _, _⟩ := hok
  have hf' : DataW.trod enc Try.prog w base spare held fuel 42 cs.toList = some (d, p) := hf
  obtain ⟨xs, m', _, _, hcl, hxl, hel⟩ := DataW.trod_struct hu hf'
  have hcl2 : cs.toList.length = 9 := hcl
  have hxl2 : xs.length = 9 := hxl
  generalize hL : cs.toList = L at *
  have q0 := hel 0 _ rfl
  have q1 := hel 1 _ rfl
  have q2 := hel 2 _ rfl
  have q3 := hel 3 _ rfl
  have q4 := hel 4 _ rfl
  have q5 := hel 5 _ rfl
  rw [List.getElem?_eq_getElem (by omega : 0 < xs.length)] at q0
  rw [List.getElem?_eq_getElem (by omega : 1 < xs.length)] at q1
  rw [List.getElem?_eq_getElem (by omega : 2 < xs.length)] at q2
  rw [List.getElem?_eq_getElem (by omega : 3 < xs.length)] at q3
  rw [List.getElem?_eq_getElem (by omega : 4 < xs.length)] at q4
  rw [List.getElem?_eq_getElem (by omega : 5 < xs.length)] at q5
  have s6 : Flat [.int .u32] ((L.drop 6).take 1) := seg_flat (hel 6 _ rfl) (by omega) [.int .u32] (by kernel_rfl) (by kernel_rfl) 1 rfl
  have s7 : Flat [.int .u32] ((L.drop 7).take 1) := seg_flat (hel 7 _ rfl) (by omega) [.int .u32] (by kernel_rfl) (by kernel_rfl) 1 rfl
  have s8 : Flat [.int .u32] ((L.drop 8).take 1) := seg_flat (hel 8 _ rfl) (by omega) [.int .u32] (by kernel_rfl) (by kernel_rfl) 1 rfl
  obtain ⟨v0, tris, e0, f0, g0⟩ := rows_of_trod TriR.c 19 (fun t => ∀ z ∈ t.z, okI z) Try.underlying34 (by kernel_rfl) (by decide) (fun _ => rfl)
    (fun fuel cs x h => tri_of_flatS cs (flat_of_trod 20 _ triKs (by kernel_rfl) (by kernel_rfl) _ _ _ h)) q0
  obtain ⟨v1, mats, e1, f1, g1⟩ := rows_of_trod MatR.c 5 (fun t => ∀ z ∈ t.z, okI z) Try.underlying35 (by kernel_rfl) (by decide) (fun _ => rfl)
    (fun fuel cs x h => mat_of_flat cs (flat_of_trod 20 _ (List.replicate 5 (.int .i64)) (by kernel_rfl) (by kernel_rfl) _ _ _ h)) q1
  obtain ⟨v2, texs, e2, f2, g2⟩ := rows_of_trod TexR.c 2 (fun t => okI t.side ∧ (∀ p ∈ t.px, ∀ z ∈ p.l, okI z) ∧ FS w 3 t.sl t.px.length (pxL t.px)) Try.underlying36 (by kernel_rfl) (by decide) (fun _ => rfl)
    (fun fuel cs x h => tex_of_trod h) q2
  obtain ⟨v3, lits, e3, f3, g3⟩ := rows_of_trod LitR.c 13 (fun t => ∀ z ∈ t.z, okI z) Try.underlying37 (by kernel_rfl) (by decide) (fun _ => rfl)
    (fun fuel cs x h => lit_of_flat cs (flat_of_trod 20 _ (List.replicate 13 (.int .i64)) (by kernel_rfl) (by kernel_rfl) _ _ _ h)) q3
  obtain ⟨v4, rs4, e4, f4, g4⟩ := flats_of_trod (ks := [.int .u64]) Try.underlying38 (by kernel_rfl) (by kernel_rfl) (by decide) q4
  obtain ⟨v5, rs5, e5, f5, g5⟩ := flats_of_trod (ks := [.int .u32]) Try.underlying39 (by kernel_rfl) (by kernel_rfl) (by decide) q5
  clear hel q0 q1 q2 q3 q4 q5 hf hf' hxl hxl2
  have e0 : (L.drop 0).take 1 = [v0] := e0
  have e1 : (L.drop 1).take 1 = [v1] := e1
  have e2 : (L.drop 2).take 1 = [v2] := e2
  have e3 : (L.drop 3).take 1 = [v3] := e3
  have e4 : (L.drop 4).take 1 = [v4] := e4
  have e5 : (L.drop 5).take 1 = [v5] := e5
  obtain ⟨b6, e6⟩ := u32_of_flat _ s6
  obtain ⟨b7, e7⟩ := u32_of_flat _ s7
  obtain ⟨b8, e8⟩ := u32_of_flat _ s8
  obtain ⟨ids, h1, h2⟩ := words_of_flats rs4 g4
  obtain ⟨labs, h3, h4⟩ := words32_of_flats rs5 g5
  rw [h1, ← h2] at f4
  rw [h3, ← h4] at f5
  refine ⟨⟨tris, mats, texs, lits, ids, labs, b6, b7, b8⟩, ⟨v0, v1, v2, v3, v4, v5⟩, ?_, ⟨g0, g1, fun t ht => ⟨(g2 t ht).1, (g2 t ht).2.1⟩, g3⟩, ⟨f0, f1, f2, fun t ht => (g2 t ht).2.2, f3, f4, f5⟩⟩
  congr 1
  apply Array.ext'
  rw [hL]
  match L, hcl2 with
  | [a0, a1, a2, a3, a4, a5, a6, a7, a8], _ =>
    simp at e0 e1 e2 e3 e4 e5 e6 e7 e8
    rw [e0, e1, e2, e3, e4, e5, e6, e7, e8]
    rfl
theorem open_made {b : Nat} {v : Value} (hok : Value.okWide Try.prog w .any b 26 v) {d : DataW H} {p : List MemPlace} (h : DataW.Trod enc Try.prog w base spare held 26 v d p) :
    ∃ (l : Int) (n : StepS) (vf : Value) (file : List (BitVec 8)), v = .agg (madeA l n vf) ∧ FS w 1 vf file.length (valsL .u8 file) := by
  obtain ⟨fuel, hf⟩ := h
  have hu := Try.underlying26
  unfold Value.okWide at hok
  rw [hu] at hok
  obtain ⟨cs, rfl, _, _⟩ := hok
  have hf' : DataW.trod enc Try.prog w base spare held fuel 26 cs.toList = some (d, p) := hf
  obtain ⟨xs, m', _, _, hcl, hxl, hel⟩ := DataW.trod_struct hu hf'
  have hcl2 : cs.toList.length = 5 := hcl
  have hxl2 : xs.length = 3 := hxl
  generalize hL : cs.toList = L at *
  have s0 : Flat [.int .i64] ((L.drop 0).take 1) := seg_flat (hel 0 _ rfl) (by omega) [.int .i64] (by kernel_rfl) (by kernel_rfl) 1 rfl
  have s1 : Flat stepKs ((L.drop 1).take 3) := seg_flat (hel 1 _ rfl) (by omega) stepKs (by kernel_rfl) (by kernel_rfl) 3 rfl
  have q2 := hel 2 _ rfl
  rw [List.getElem?_eq_getElem (by omega : 2 < xs.length)] at q2
  obtain ⟨u, rs, e2, f2, g2⟩ := flats_of_trod (ks := [.int .u8]) Try.underlying24 (by kernel_rfl) (by kernel_rfl) (by decide) q2
  clear hel q2 hf hf' hxl hxl2
  have e2 : (L.drop 4).take 1 = [u] := e2
  obtain ⟨z, e0⟩ := int_of_flat _ s0
  obtain ⟨St, e1⟩ := steps_of_flat _ s1
  obtain ⟨file, h1, h2⟩ := bytes8_of_flats rs g2
  rw [h1, ← h2] at f2
  refine ⟨z, St, u, file, ?_, f2⟩
  congr 1
  apply Array.ext'
  rw [hL]
  match L, hcl2 with
  | [a0, a1, a2, a3, a4], _ =>
    simp [StepS.c] at e0 e1 e2
    obtain ⟨rfl, rfl, rfl⟩ := e1
    rw [e0, e2]
    rfl
end
end Go.Proofs.Ytihbiejgebmeaaa
