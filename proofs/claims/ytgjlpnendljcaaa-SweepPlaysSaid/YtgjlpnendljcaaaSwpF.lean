/- A law's triangles and questions, from their cells. No condition. -/
import Derived.Test.YtgjlpnendljcaaaFrameK
import Derived.Test.YtgjlpnendljcaaaFrame
import Derived.Test.YtgjlpnendljcaaaSwp12
namespace Go.Proofs.Ytgjlpnendljcaaa
open Go.RowKit
set_option maxRecDepth 100000
def triKs : List Kd := List.replicate 18 (.int .i64) ++ [.int .u8]
def askKs : List Kd := List.replicate 6 (.int .i64) ++ [.int .u8, .int .i64, .bool]
theorem tri_of_flat (r : List Value) (h : Flat triKs r) : ∃ t : TriS, triC t = r ∧ t.ok := by
  have hl : r.length = 19 := h.len
  match r, hl with
  | [a0, a1, a2, a3, a4, a5, a6, a7, a8, a9, a10, a11, a12, a13, a14, a15, a16, a17, a18], _ =>
    obtain ⟨⟨x0, rfl, _⟩, ⟨x1, rfl, _⟩, ⟨x2, rfl, _⟩, ⟨x3, rfl, _⟩, ⟨x4, rfl, _⟩, ⟨x5, rfl, _⟩, ⟨x6, rfl, _⟩, ⟨x7, rfl, _⟩, ⟨x8, rfl, _⟩, ⟨x9, rfl, _⟩, ⟨x10, rfl, _⟩, ⟨x11, rfl, _⟩, ⟨x12, rfl, _⟩, ⟨x13, rfl, _⟩, ⟨x14, rfl, _⟩, ⟨x15, rfl, _⟩, ⟨x16, rfl, _⟩, ⟨x17, rfl, _⟩, ⟨z, rfl, hz⟩, _⟩ := h
    obtain ⟨m, rfl⟩ := bv8_of z hz
    refine ⟨⟨⟨x0, x1, x2⟩, ⟨x3, x4, x5⟩, ⟨x6, x7, x8⟩, [.int .i64 x9, .int .i64 x10, .int .i64 x11, .int .i64 x12, .int .i64 x13, .int .i64 x14, .int .i64 x15, .int .i64 x16, .int .i64 x17], m⟩, rfl, rfl, fun u hu => ?_⟩
    simp only [List.mem_cons, List.not_mem_nil, or_false] at hu
    rcases hu with rfl | rfl | rfl | rfl | rfl | rfl | rfl | rfl | rfl <;> rfl
theorem tris_of_flats {w : World} {v : Value} {rs : List (List Value)} (hf : FS w 19 v rs.length (rs.flatMap id)) (h : ∀ r ∈ rs, Flat triKs r) : ∃ es : List TriS, FS w 19 v es.length (trisC es) ∧ ∀ e ∈ es, e.ok := by
  have key : ∀ rs : List (List Value), (∀ r ∈ rs, Flat triKs r) → ∃ es : List TriS, es.length = rs.length ∧ trisC es = rs.flatMap id ∧ ∀ e ∈ es, e.ok := by
    intro rs
    induction rs with
    | nil => intro _; exact ⟨[], rfl, rfl, fun e he => by cases he⟩
    | cons r rs ih =>
      intro h
      obtain ⟨t, ht, hok⟩ := tri_of_flat r (h r List.mem_cons_self)
      obtain ⟨es, h1, h2, h3⟩ := ih fun r hr => h r (List.mem_cons_of_mem _ hr)
      refine ⟨t :: es, by simp [h1], ?_, fun e he => ?_⟩
      · rw [List.flatMap_cons, ← h2, trisC, List.flatMap_cons, ht]; rfl
      · rcases List.mem_cons.1 he with rfl | he
        · exact hok
        · exact h3 e he
  obtain ⟨es, h1, h2, h3⟩ := key rs h
  exact ⟨es, by rw [h1, h2]; exact hf, h3⟩
theorem ask_of_flat {r : List Value} (h : Flat askKs r) : ∃ (o d : P3) (mask : BitVec 8) (skip : Int) (near : Bool), r.toArray = askC o d mask skip near := by
  have hl : r.length = 9 := h.len
  match r, hl with
  | [a0, a1, a2, a3, a4, a5, a6, a7, a8], _ =>
    obtain ⟨⟨x0, rfl, _⟩, ⟨x1, rfl, _⟩, ⟨x2, rfl, _⟩, ⟨x3, rfl, _⟩, ⟨x4, rfl, _⟩, ⟨x5, rfl, _⟩, ⟨z, rfl, hz⟩, ⟨sk, rfl, _⟩, ⟨b, rfl⟩, _⟩ := h
    obtain ⟨m, rfl⟩ := bv8_of z hz
    exact ⟨⟨x0, x1, x2⟩, ⟨x3, x4, x5⟩, m, sk, b, rfl⟩
end Go.Proofs.Ytgjlpnendljcaaa
