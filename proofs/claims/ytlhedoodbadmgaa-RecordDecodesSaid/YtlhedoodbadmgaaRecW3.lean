/- What a record's bytes are; slices built of four places. No condition. -/
import Derived.Test.YtlhedoodbadmgaaRecW2
import Derived.Test.YtlhedoodbadmgaaRecP
namespace Go.Proofs.Ytlhedoodbadmgaa
open Go.RowKit
set_option maxRecDepth 100000
set_option maxHeartbeats 1000000
section
variable {C : Ctx} {ops : Array Oper} {S : St} {o : Oper}
theorem arr3 (A : Array Value) (h : A.size = 3) : ∃ a b c, A = #[a, b, c] := by
  obtain ⟨l⟩ := A
  match l, h with
  | [a, b, c], _ => exact ⟨a, b, c, rfl⟩
theorem op_bsliceP {t T n : Nat} {parts : Array (Nat × Operand)} {x0 x1 x2 x3 : Operand} {A0 A1 A2 A3 : Array Value} {Z : Array Value} (ho : o.op = .buildSlice t 4 parts) (hp : parts = #[(0, x0), (1, x1), (2, x2), (3, x3)]) (hdn : o.dst = some n) (hg : o.guard = none) (hd : dstB o.dst C.nt = true)
    (h0 : S.ev x0 = some (.c (.agg A0))) (h1 : S.ev x1 = some (.c (.agg A1))) (h2 : S.ev x2 = some (.c (.agg A2))) (h3 : S.ev x3 = some (.c (.agg A3))) (hu' : tabLook undT t = some (.slice T)) (hs' : tabLook sizT T = some 3) (hz' : tabLook zerT T = some Z) (hZ : Z.size = 3) (s0 : A0.size = 3) (s1 : A1.size = 3) (s2 : A2.size = 3) (s3 : A3.size = 3) :
    OpG C Try.prog ops o S ⟨[x0, x1, x2, x3].flatMap opT, [], [(n, .s n 0 4 4)], [(n, some (.blk n T (.c (A0 ++ A1 ++ A2 ++ A3))))], [n]⟩ := by
  refine opG_mk hg fun S' g1 g2 g3 e a w hS => ?_
  have hN := hS.newBlk (g3 n (by simp)) T (.c (A0 ++ A1 ++ A2 ++ A3)) (by simp [SA.c])
  have e0 : a.eval x0 = .agg A0 := hS.ev ((ev_like g1 fun _ h => List.mem_flatMap.2 ⟨x0, by simp, h⟩).trans h0)
  have e1 : a.eval x1 = .agg A1 := hS.ev ((ev_like g1 fun _ h => List.mem_flatMap.2 ⟨x1, by simp, h⟩).trans h1)
  have e2 : a.eval x2 = .agg A2 := hS.ev ((ev_like g1 fun _ h => List.mem_flatMap.2 ⟨x2, by simp, h⟩).trans h2)
  have e3 : a.eval x3 = .agg A3 := hS.ev ((ev_like g1 fun _ h => List.mem_flatMap.2 ⟨x3, by simp, h⟩).trans h3)
  have hu := tabAll_look undT_ok hu'
  have hz := tabAll_look zerT_ok hz'
  obtain ⟨zv, hz3, hzc⟩ : ∃ zv, (zeroValue T).run Try.prog w = .ok zv w ∧ zv.cells = Z := by
    cases hb : (Try.prog.info? T) with
    | none => simp [hb] at hz
    | some i =>
      cases hc : i.zero with
      | none => simp [hb, hc] at hz
      | some zz => exact ⟨zz, by simp [zeroValue, typeInfo, hb, hc], by simpa [hb, hc] using hz⟩
  refine wp_value (v := .slice (some ⟨w.heap.size, 0, none⟩) 4 4) (w' := w.alloc (.cells (A0 ++ A1 ++ A2 ++ A3) T)) ?_ ⟨e.set n ⟨w.heap.size, 0, undef⟩, ?_⟩
  · simp only [execOp, ho, hp, Instr.buildSlice, Sem.run_bind, run_underlying hu w, Result.andThen_ok, run_sizeT hs' w, Sem.run_ite]
    simp only [show ¬ (4 * 3 > 2 ^ 24) from by omega, if_false, show ¬ (3 = 0) from by omega, Sem.run_bind, hz3, Result.andThen_ok, Sem.run_pure, hzc, List.map_toArray, List.map_cons, List.map_nil, e0, e1, e2, e3]
    obtain ⟨z0, z1, z2, rfl⟩ := arr3 Z hZ
    obtain ⟨a0, a1, a2, rfl⟩ := arr3 A0 s0
    obtain ⟨b0, b1, b2, rfl⟩ := arr3 A1 s1
    obtain ⟨c0, c1, c2, rfl⟩ := arr3 A2 s2
    obtain ⟨d0, d1, d2, rfl⟩ := arr3 A3 s3
    rw [show Instr.fill (fun i => some (i * 3, 3)) ((Array.range (4 * 3)).map fun x => (#[z0, z1, z2] : Array Value)[x % (#[z0, z1, z2] : Array Value).size]!) [(0, .agg #[a0, a1, a2]), (1, .agg #[b0, b1, b2]), (2, .agg #[c0, c1, c2]), (3, .agg #[d0, d1, d2])] = some (#[a0, a1, a2] ++ #[b0, b1, b2] ++ #[c0, c1, c2] ++ #[d0, d1, d2]) from by kernel_rfl]
    simp [newRow]
  · rw [hdn]
    have hd' : dstB (some n) C.nt = true := by rw [← hdn]; exact hd
    have := hN.put hd' (.s n 0 4 4)
    simp only [SV.s, Env.set_self] at this
    exact this
end
theorem fit8 (l : List (BitVec 64)) : fitW 8 l := fun x _ => x.isLt
theorem sgW_fit (k : Nat) (hk : k ≤ 7) (zs : List Int) (h : ∀ z ∈ zs, 0 ≤ z ∧ z < 2 ^ (8 * k)) : fitW k (sgW zs) := fun x hx => by
  obtain ⟨z, hz, rfl⟩ := List.mem_map.1 hx
  obtain ⟨h1, h2⟩ := h z hz
  have h3 : (2 : Int) ^ (8 * k) = ((2 ^ (8 * k) : Nat) : Int) := by push_cast; rfl
  have h4 : 2 ^ (8 * k) ≤ 2 ^ 56 := Nat.pow_le_pow_right (by omega) (by omega)
  rw [BitVec.toNat_ofInt]
  rw [h3] at h2
  generalize 2 ^ (8 * k) = M at *
  simp only [Nat.reducePow] at h4 ⊢
  omega
def b2i (b : Bool) : Int := if b then 1 else 0
def encZ1 (r : RecS) : List Int := [r.layer, r.view.w, r.view.h, r.view.samples, r.view.depth, r.view.cls]
def encPs (r : RecS) : List P3 := [r.view.cam.eye, r.view.cam.right, r.view.cam.up, r.view.cam.ahead]
def encZ4 (r : RecS) : List Int := [r.view.cam.lens, r.view.cam.focus]
def encZ6 (r : RecS) : List Int := [r.steps.walk, r.steps.texel, r.steps.bounce]
def encZ9 (r : RecS) : List Int := [(r.label.toNat : Int), (r.frm.toNat : Int), (r.til.toNat : Int)]
def enc1 (r : RecS) : List (BitVec 8) := [] ++ putW 1 (sgW (encZ1 r))
def enc2 (r : RecS) : List (BitVec 8) := enc1 r ++ putW 8 [r.view.seed]
def enc3 (r : RecS) : List (BitVec 8) := enc2 r ++ putP (encPs r)
def enc4 (r : RecS) : List (BitVec 8) := enc3 r ++ putW 4 (sgW (encZ4 r))
def enc5 (r : RecS) : List (BitVec 8) := enc4 r ++ putW 1 (sgW [b2i r.view.constant])
def enc6 (r : RecS) : List (BitVec 8) := enc5 r ++ putW 8 (sgW (encZ6 r))
def enc7 (r : RecS) (n : Nat) : List (BitVec 8) := enc6 r ++ putW 2 (sgW [(n : Int)])
def enc8 (r : RecS) (ids : List (BitVec 64)) : List (BitVec 8) := enc7 r ids.length ++ putW 8 ids
def enc9 (r : RecS) (ids : List (BitVec 64)) : List (BitVec 8) := enc8 r ids ++ putW 4 (sgW (encZ9 r))
def encB (r : RecS) (ids : List (BitVec 64)) : List (BitVec 8) := [enc9 r ids, r.scene, r.planes].flatten
def encL (r : RecS) (ids : List (BitVec 64)) : List (BitVec 8) := if recE r = 0 then encB r ids else []
theorem rec_bounds (r : RecS) (h : recE r = 0) : 0 ≤ r.layer ∧ r.layer ≤ 7 ∧ viewE r.view = 0 ∧ (r.steps.l == (wantS r.view).l) = true := by
  unfold recE at h
  by_cases h1 : r.layer < 0 ∨ 7 < r.layer
  · rw [if_pos h1] at h; cases h
  · rw [if_neg h1] at h
    by_cases h2 : viewE r.view ≠ 0
    · rw [if_pos h2] at h; exact absurd h h2
    · rw [if_neg h2] at h
      by_cases h3 : (r.steps.l == (wantS r.view).l) = false
      · rw [if_pos h3] at h; cases h
      · simp at h2 h3
        exact ⟨by omega, by omega, h2, by simpa using h3⟩
/-- What is written fits. -/
structure EncFit (r : RecS) : Prop where
  f1 : fitW 1 (sgW (encZ1 r))
  f3 : ∀ p ∈ encPs r, okP p
  f4 : fitW 4 (sgW (encZ4 r))
  f5 : fitW 1 (sgW [b2i r.view.constant])
  f9 : fitW 4 (sgW (encZ9 r))
theorem enc_fit (r : RecS) (h : recE r = 0) : EncFit r := by
  obtain ⟨l0, l7, hv, _⟩ := rec_bounds r h
  obtain ⟨he, hr, hu, ha, ⟨s1, s2, s3, s4, s5, s6, s7, s8⟩, ⟨v1, v2, v3, v4, v5, v6⟩⟩ := view_bounds r.view hv
  have e := in_bounds he
  have e1 := dir_bounds hr
  have e2 := dir_bounds hu
  have e3 := dir_bounds ha
  refine ⟨sgW_fit 1 (by omega) _ fun z hz => ?_, fun p hp => ?_, sgW_fit 4 (by omega) _ fun z hz => ?_, sgW_fit 1 (by omega) _ fun z hz => ?_, sgW_fit 4 (by omega) _ fun z hz => ?_⟩
  · simp only [encZ1, List.mem_cons, List.not_mem_nil, or_false] at hz
    rcases hz with rfl | rfl | rfl | rfl | rfl | rfl <;> (show _ ∧ _ < (256 : Int); omega)
  · simp only [encPs, List.mem_cons, List.not_mem_nil, or_false] at hp
    rcases hp with rfl | rfl | rfl | rfl <;> intro z hz <;> simp only [P3.l, List.mem_cons, List.not_mem_nil, or_false] at hz <;> rcases hz with rfl | rfl | rfl <;> omega
  · simp only [encZ4, List.mem_cons, List.not_mem_nil, or_false] at hz
    rcases hz with rfl | rfl <;> (show _ ∧ _ < (4294967296 : Int); omega)
  · rw [List.mem_singleton] at hz
    subst hz
    show _ ∧ _ < (256 : Int)
    unfold b2i
    split <;> omega
  · simp only [encZ9, List.mem_cons, List.not_mem_nil, or_false] at hz
    have a1 := r.label.isLt
    have a2 := r.frm.isLt
    have a3 := r.til.isLt
    rcases hz with rfl | rfl | rfl <;> (show _ ∧ _ < (4294967296 : Int); omega)
theorem enc_len (r : RecS) (n : Nat) : (enc1 r).length = 6 ∧ (enc2 r).length = 14 ∧ (enc3 r).length = 62 ∧ (enc4 r).length = 70 ∧ (enc5 r).length = 71 ∧ (enc6 r).length = 95 ∧ (enc7 r n).length = 97 := by
  have a1 : (enc1 r).length = 6 := by rw [enc1, List.length_append, putW_length]; rfl
  have a2 : (enc2 r).length = 14 := by rw [enc2, List.length_append, putW_length, a1]; rfl
  have a3 : (enc3 r).length = 62 := by rw [enc3, List.length_append, putP_length, a2]; rfl
  have a4 : (enc4 r).length = 70 := by rw [enc4, List.length_append, putW_length, a3]; rfl
  have a5 : (enc5 r).length = 71 := by rw [enc5, List.length_append, putW_length, a4]; rfl
  have a6 : (enc6 r).length = 95 := by rw [enc6, List.length_append, putW_length, a5]; rfl
  exact ⟨a1, a2, a3, a4, a5, a6, by rw [enc7, List.length_append, putW_length, a6]; rfl⟩
theorem enc_len2 (r : RecS) (ids : List (BitVec 64)) : (enc8 r ids).length = 97 + 8 * ids.length ∧ (enc9 r ids).length = 109 + 8 * ids.length := by
  have a7 := (enc_len r ids.length).2.2.2.2.2.2
  have a8 : (enc8 r ids).length = 97 + 8 * ids.length := by rw [enc8, List.length_append, putW_length, a7]
  exact ⟨a8, by rw [enc9, List.length_append, putW_length, a8]; show 97 + 8 * ids.length + 4 * 3 = _; omega⟩
theorem encB_length (r : RecS) (hok : r.ok) (ids : List (BitVec 64)) : (encB r ids).length = 173 + 8 * ids.length := by
  obtain ⟨h1, h2⟩ := hok
  rw [encB]
  simp only [List.flatten_cons, List.flatten_nil, List.append_nil, List.length_append, (enc_len2 r ids).2, h1, h2]
  omega
end Go.Proofs.Ytlhedoodbadmgaa
