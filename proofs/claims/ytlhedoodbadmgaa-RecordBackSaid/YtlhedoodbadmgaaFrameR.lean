/- A law's records, from their cells. No condition. -/
import Derived.Test.YtlhedoodbadmgaaFrameKL
import Derived.Test.YtlhedoodbadmgaaFrame
import Derived.Test.YtlhedoodbadmgaaRecP
namespace Go.Proofs.Ytlhedoodbadmgaa
open Go.RowKit Go.ChangeAt Go.ChangeShapes Go.WideShapes Go.Deep
set_option maxRecDepth 100000
def viewKs : List Kd := List.replicate 5 (.int .i64) ++ [.int .u64] ++ List.replicate 14 (.int .i64) ++ [.bool]
def stepKs : List Kd := List.replicate 3 (.int .i64)
theorem view_of_flat (r : List Value) (h : Flat viewKs r) : ∃ V : ViewS, r = V.c.toList := by
  have hl : r.length = 21 := h.len
  match r, hl with
  | [a0, a1, a2, a3, a4, a5, a6, a7, a8, a9, a10, a11, a12, a13, a14, a15, a16, a17, a18, a19, a20], _ =>
    obtain ⟨⟨x0, rfl, _⟩, ⟨x1, rfl, _⟩, ⟨x2, rfl, _⟩, ⟨x3, rfl, _⟩, ⟨x4, rfl, _⟩, ⟨z, rfl, hz⟩, ⟨x6, rfl, _⟩, ⟨x7, rfl, _⟩, ⟨x8, rfl, _⟩, ⟨x9, rfl, _⟩, ⟨x10, rfl, _⟩, ⟨x11, rfl, _⟩, ⟨x12, rfl, _⟩, ⟨x13, rfl, _⟩, ⟨x14, rfl, _⟩, ⟨x15, rfl, _⟩, ⟨x16, rfl, _⟩, ⟨x17, rfl, _⟩, ⟨x18, rfl, _⟩, ⟨x19, rfl, _⟩, ⟨b, rfl⟩, _⟩ := h
    obtain ⟨m, rfl⟩ := bv64_of z hz
    exact ⟨⟨x0, x1, x2, x3, x4, m, ⟨⟨x6, x7, x8⟩, ⟨x9, x10, x11⟩, ⟨x12, x13, x14⟩, ⟨x15, x16, x17⟩, x18, x19⟩, b⟩, rfl⟩
theorem steps_of_flat (r : List Value) (h : Flat stepKs r) : ∃ s : StepS, r = s.c.toList := by
  have hl : r.length = 3 := h.len
  match r, hl with
  | [a0, a1, a2], _ =>
    obtain ⟨⟨x0, rfl, _⟩, ⟨x1, rfl, _⟩, ⟨x2, rfl, _⟩, _⟩ := h
    exact ⟨⟨x0, x1, x2⟩, rfl⟩
theorem int_of_flat (r : List Value) (h : Flat [.int .i64] r) : ∃ z, r = [.int .i64 z] := by
  have hl : r.length = 1 := h.len
  match r, hl with
  | [a0], _ => obtain ⟨⟨x0, rfl, _⟩, _⟩ := h; exact ⟨x0, rfl⟩
theorem u32_of_flat (r : List Value) (h : Flat [.int .u32] r) : ∃ b : BitVec 32, r = [.int .u32 (bvi b)] := by
  have hl : r.length = 1 := h.len
  match r, hl with
  | [a0], _ =>
    obtain ⟨⟨z, rfl, hz⟩, _⟩ := h
    obtain ⟨m, rfl⟩ := bv32_of z hz
    exact ⟨m, rfl⟩
theorem bytes_of_flat : ∀ (n : Nat) (r : List Value), Flat (List.replicate n (.int .u8)) r → ∃ l : List (BitVec 8), r = valsL .u8 l ∧ l.length = n
  | 0, [], _ => ⟨[], rfl, rfl⟩
  | n + 1, v :: r, h => by
    rw [List.replicate_succ] at h
    obtain ⟨⟨z, rfl, hz⟩, h2⟩ := h
    obtain ⟨m, rfl⟩ := bv8_of z hz
    obtain ⟨l, rfl, hl⟩ := bytes_of_flat n r h2
    exact ⟨m :: l, rfl, by simp [hl]⟩
  | 0, _ :: _, h => by cases h
  | n + 1, [], h => by rw [List.replicate_succ] at h; cases h
theorem words_of_flats : ∀ (rs : List (List Value)), (∀ r ∈ rs, Flat [.int .u64] r) → ∃ l : List (BitVec 64), rs.flatMap id = valsL .u64 l ∧ l.length = rs.length
  | [], _ => ⟨[], rfl, rfl⟩
  | r :: rs, h => by
    obtain ⟨l, h1, h2⟩ := words_of_flats rs fun r hr => h r (List.mem_cons_of_mem _ hr)
    have h0 := h r List.mem_cons_self
    have hl : r.length = 1 := h0.len
    match r, hl, h0 with
    | [a0], _, h0 =>
      obtain ⟨⟨z, rfl, hz⟩, _⟩ := h0
      obtain ⟨m, rfl⟩ := bv64_of z hz
      exact ⟨m :: l, by rw [List.flatMap_cons, h1]; rfl, by simp [h2]⟩
section
theorem seg_flat {H : Type} {enc : TypeId × Value → H} {P : Program} {w : World} {base : Nat} {spare : Nat → Bool} {held : Bool} {n : Nat} {t : TypeId} {o i : Nat} {L : List Value} {xs : List (DataW H × List MemPlace)} (q : DataW.trod enc P w base spare held n t ((L.drop o).take (P.cellsOf t)) = xs[i]?) (hi : i < xs.length) (ks : List Kd) (hk : flatT P 20 t = some ks) (hc : P.cellsOf t = ks.length) (m : Nat) (hm : ks.length = m) : Flat ks ((L.drop o).take m) := by
  rw [List.getElem?_eq_getElem hi] at q
  have := flat_of_trod 20 _ ks hk hc _ _ _ q
  rw [hc, hm] at this
  exact this
variable {H : Type} {enc : TypeId × Value → H} {w : World} {base : Nat} {spare : Nat → Bool} {held : Bool}
theorem open_record {b : Nat} {v : Value} (hok : Value.okWide Try.prog w .any b 46 v) {d : DataW H} {p : List MemPlace} (h : DataW.Trod enc Try.prog w base spare held 46 v d p) :
    ∃ (r : RecS) (ids : List (BitVec 64)) (u : Value), v = .agg (recA r u) ∧ r.ok ∧ FS w 1 u ids.length (valsL .u64 ids) := by
  obtain ⟨fuel, hf⟩ := h
  have hu := Try.underlying46
  unfold Value.okWide at hok
  rw [hu] at hok
  obtain ⟨cs, rfl, _, _⟩ := hok
  have hf' : DataW.trod enc Try.prog w base spare held fuel 46 cs.toList = some (d, p) := hf
  obtain ⟨xs, m', _, _, hcl, hxl, hel⟩ := DataW.trod_struct hu hf'
  have hcl2 : cs.toList.length = 93 := hcl
  have hxl2 : xs.length = 9 := hxl
  generalize hL : cs.toList = L at *
  have s0 : Flat [.int .i64] ((L.drop 0).take 1) := seg_flat (hel 0 _ rfl) (by omega) [.int .i64] (by kernel_rfl) (by kernel_rfl) 1 rfl
  have s1 : Flat viewKs ((L.drop 1).take 21) := seg_flat (hel 1 _ rfl) (by omega) viewKs (by kernel_rfl) (by kernel_rfl) 21 rfl
  have s2 : Flat stepKs ((L.drop 22).take 3) := seg_flat (hel 2 _ rfl) (by omega) stepKs (by kernel_rfl) (by kernel_rfl) 3 rfl
  have q3 := hel 3 _ rfl
  rw [List.getElem?_eq_getElem (by omega : 3 < xs.length)] at q3
  obtain ⟨u, rs, e3, f3, g3⟩ := flats_of_trod (ks := [.int .u64]) Try.underlying38 (by kernel_rfl) (by kernel_rfl) (by decide) q3
  have e3 : (L.drop 25).take 1 = [u] := e3
  have s4 : Flat [.int .u32] ((L.drop 26).take 1) := seg_flat (hel 4 _ rfl) (by omega) [.int .u32] (by kernel_rfl) (by kernel_rfl) 1 rfl
  have s5 : Flat [.int .u32] ((L.drop 27).take 1) := seg_flat (hel 5 _ rfl) (by omega) [.int .u32] (by kernel_rfl) (by kernel_rfl) 1 rfl
  have s6 : Flat [.int .u32] ((L.drop 28).take 1) := seg_flat (hel 6 _ rfl) (by omega) [.int .u32] (by kernel_rfl) (by kernel_rfl) 1 rfl
  have s7 : Flat (List.replicate 32 (.int .u8)) ((L.drop 29).take 32) := seg_flat (hel 7 _ rfl) (by omega) (List.replicate 32 (.int .u8)) (by kernel_rfl) (by kernel_rfl) 32 (by simp)
  have s8 : Flat (List.replicate 32 (.int .u8)) ((L.drop 61).take 32) := seg_flat (hel 8 _ rfl) (by omega) (List.replicate 32 (.int .u8)) (by kernel_rfl) (by kernel_rfl) 32 (by simp)
  clear hel q3 hf hf' hxl hxl2
  obtain ⟨z, e0⟩ := int_of_flat _ s0
  obtain ⟨V, e1⟩ := view_of_flat _ s1
  obtain ⟨St, e2⟩ := steps_of_flat _ s2
  obtain ⟨b4, e4⟩ := u32_of_flat _ s4
  obtain ⟨b5, e5⟩ := u32_of_flat _ s5
  obtain ⟨b6, e6⟩ := u32_of_flat _ s6
  obtain ⟨l7, e7, n7⟩ := bytes_of_flat 32 _ s7
  obtain ⟨l8, e8, n8⟩ := bytes_of_flat 32 _ s8
  obtain ⟨ids, h1, h2⟩ := words_of_flats rs g3
  refine ⟨⟨z, V, St, b4, b5, b6, l7, l8⟩, ids, u, ?_, ⟨n7, n8⟩, ?_⟩
  · have dr : ∀ n m, L.drop n = (L.drop n).take m ++ L.drop (n + m) := fun n m => by rw [← List.drop_drop, List.take_append_drop]
    have hend : L.drop 93 = [] := List.drop_of_length_le (by omega)
    have hall : L = [.int .i64 z] ++ (V.c.toList ++ (St.c.toList ++ ([u] ++ ([.int .u32 (bvi b4)] ++ ([.int .u32 (bvi b5)] ++ ([.int .u32 (bvi b6)] ++ (valsL .u8 l7 ++ (valsL .u8 l8 ++ [])))))))) := by
      have h0 : L = L.drop 0 := rfl
      rw [h0, dr 0 1, e0, dr 1 21, e1, dr 22 3, e2, dr 25 1, e3, dr 26 1, e4, dr 27 1, e5, dr 28 1, e6, dr 29 32, e7, dr 61 32, e8, hend]
    congr 1
    apply Array.ext'
    rw [hL, hall]
    simp [recA, vals]
  · rw [h1] at f3
    rw [h2]
    exact f3
end
end Go.Proofs.Ytlhedoodbadmgaa
