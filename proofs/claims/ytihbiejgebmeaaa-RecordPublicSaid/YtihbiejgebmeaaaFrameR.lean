/- A law's records, from their cells. No condition. -/
import Derived.Test.YtihbiejgebmeaaaFrameKL
import Derived.Test.YtihbiejgebmeaaaFrame
import Derived.Test.YtihbiejgebmeaaaRecP
namespace Go.Proofs.Ytihbiejgebmeaaa
open Go.RowKit Go.ChangeAt Go.ChangeShapes Go.WideShapes Go.Deep
set_option maxRecDepth 100000
def viewKs : List Kd := List.replicate 5 (.int .i64) ++ [.int .u64] ++ List.replicate 14 (.int .i64) ++ [.bool]
def stepKs : List Kd := List.replicate 3 (.int .i64)
theorem view_of_flat (r : List Value) (h : Flat viewKs r) : ∃ V : ViewS, r = V.c.toList := by
  have hl : r.length = 21 := h.len
  match r, hl with
  | [a0, a1, a2, a3, a4, a5, a6, a7, a8, a9, a10, a11, a12, a13, a14, a15, a16, a17, a18, a19, a20], _ =>
    obtain ⟨⟨x0, rfl, _⟩, ⟨x1, rfl, _⟩, ⟨x2, rfl, _⟩, ⟨x3, rfl, _⟩, ⟨x4, rfl, _⟩, ⟨z, rfl, hz⟩, ⟨x6, rfl, _⟩, ⟨x7, rfl, _⟩, ⟨x8, rfl, _⟩, ⟨x9, rfl, _⟩, ⟨x10, rfl, _⟩, ⟨x11, rfl, _⟩, ⟨x12, rfl, _⟩, ⟨x13, rfl, _⟩, ⟨x14, rfl, _⟩, ⟨x15, rfl, _⟩, ⟨x16, rfl, _⟩, ⟨x17, rfl, _⟩, ⟨x18, rfl, _⟩, ⟨x19, rfl, _⟩, ⟨b, rfl⟩, _⟩ := h
    obtain ⟨m, rfl⟩ := bv64_of z hz
    exact ⟨⟨x0, x1, x2, x3, x4, m, ⟨⟨x6, x7, x8⟩, ⟨x9, x10, x11⟩, ⟨x12, x13, x14⟩, ⟨x15, x16, x17⟩, x18, x19⟩, b⟩, rfl⟩
theorem steps_of_flat (r : List Value) (h : Flat stepKs r) : ∃ s : StepS, r = s.c.toList := by
  have hl : r.length = 3 := h.len
  match r, hl with
  | [a0, a1, a2], _ =>
    obtain ⟨⟨x0, rfl, _⟩, ⟨x1, rfl, _⟩, ⟨x2, rfl, _⟩, _⟩ := h
    exact ⟨⟨x0, x1, x2⟩, rfl⟩
theorem int_of_flat (r : List Value) (h : Flat [.int .i64] r) : ∃ z, r = [.int .i64 z] := by
  have hl : r.length = 1 := h.len
  match r, hl with
  | [a0], _ => obtain ⟨⟨x0, rfl, _⟩, _⟩ := h; exact ⟨x0, rfl⟩
theorem u32_of_flat (r : List Value) (h : Flat [.int .u32] r) : ∃ b : BitVec 32, r = [.int .u32 (bvi b)] := by
  have hl : r.length = 1 := h.len
  match r, hl with
  | [a0], _ =>
    obtain ⟨⟨z, rfl, hz⟩, _⟩ := h
    obtain ⟨m, rfl⟩ := bv32_of z hz
    exact ⟨m, rfl⟩
theorem words_of_flats : ∀ (rs : List (List Value)), (∀ r ∈ rs, Flat [.int .u64] r) → ∃ l : List (BitVec 64), rs.flatMap id = valsL .u64 l ∧ l.length = rs.length
  | [], _ => ⟨[], rfl, rfl⟩
  | r :: rs, h => by
    obtain ⟨l, h1, h2⟩ := words_of_flats rs fun r hr => h r (List.mem_cons_of_mem _ hr)
    have h0 := h r List.mem_cons_self
    have hl : r.length = 1 := h0.len
    match r, hl, h0 with
    | [a0], _, h0 =>
      obtain ⟨⟨z, rfl, hz⟩, _⟩ := h0
      obtain ⟨m, rfl⟩ := bv64_of z hz
      exact ⟨m :: l, by rw [List.flatMap_cons, h1]; rfl, by simp [h2]⟩
section
theorem seg_flat {H : Type} {enc : TypeId × Value → H} {P : Program} {w : World} {base : Nat} {spare : Nat → Bool} {held : Bool} {n : Nat} {t : TypeId} {o i : Nat} {L : List Value} {xs : List (DataW H × List MemPlace)} (q : DataW.trod enc P w base spare held n t ((L.drop o).take (P.cellsOf t)) = xs[i]?) (hi : i < xs.length) (ks : List Kd) (hk : flatT P 20 t = some ks) (hc : P.cellsOf t = ks.length) (m : Nat) (hm : ks.length = m) : Flat ks ((L.drop o).take m) := by
  rw [List.getElem?_eq_getElem hi] at q
  have := flat_of_trod 20 _ ks hk hc _ _ _ q
  rw [hc, hm] at this
  exact this
variable {H : Type} {enc : TypeId × Value → H} {w : World} {base : Nat} {spare : Nat → Bool} {held : Bool}
end
end Go.Proofs.Ytihbiejgebmeaaa
