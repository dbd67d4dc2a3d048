/- A scene cut short can be read; slices.Clone of numbers. No condition. -/
import Derived.Test.YtihbiejgebmeaaaRecM5
import Derived.Test.YtihbiejgebmeaaaRecM1
import Derived.Test.YtihbiejgebmeaaaRecZCD
namespace Go.Proofs.Ytihbiejgebmeaaa
open Go.RowKit
set_option maxRecDepth 100000
set_option maxHeartbeats 1000000
/-- The numbers of a scene are numbers. -/
structure ScnR.num (s : ScnR) : Prop where
  tris : ∀ t ∈ s.tris, ∀ z ∈ t.z, okI z
  mats : ∀ t ∈ s.mats, ∀ z ∈ t.z, okI z
  texs : ∀ t ∈ s.texs, okI t.side ∧ ∀ p ∈ t.px, ∀ z ∈ p.l, okI z
  lits : ∀ t ∈ s.lits, ∀ z ∈ t.z, okI z
theorem few_ok (s : ScnR) (h : s.num) : (fewS s).ok where
  tris t ht := h.tris t (List.mem_of_mem_take ht)
  mats t ht := h.mats t (List.mem_of_mem_take ht)
  texs t ht := by
    obtain ⟨u, hu, rfl⟩ := List.mem_map.1 ht
    obtain ⟨h1, h2⟩ := h.texs u (List.mem_of_mem_take hu)
    exact ⟨h1, by show (u.px.take 260).length ≤ 260; rw [List.length_take]; omega, fun p hp => h2 p (List.mem_of_mem_take hp)⟩
  lits t ht := h.lits t (List.mem_of_mem_take ht)
  ltris := by show (s.tris.take 20).length ≤ 20; rw [List.length_take]; omega
  lmats := by show (s.mats.take 8).length ≤ 8; rw [List.length_take]; omega
  ltexs := by show ((s.texs.take 4).map fewT).length ≤ 4; rw [List.length_map, List.length_take]; omega
  llits := by show (s.lits.take 5).length ≤ 5; rw [List.length_take]; omega
  lids := by show (s.ids.take 20).length ≤ 20; rw [List.length_take]; omega
  llabs := by show (s.labs.take 20).length ≤ 20; rw [List.length_take]; omega
theorem cut_rd {α : Type} {f : α → List Value} {w : World} {sz k : Nat} {v : Value} {l : List α} (h : FS w sz v l.length (l.flatMap f)) (hf : ∀ a ∈ l, (f a).length = sz) : FS w sz (cutN sz v l.length k) (l.take k).length ((l.take k).flatMap f) := by
  have h1 := h.cutZ (lo := 0) (len := min l.length k - 0) (by omega)
  have e1 : (l.take k).length = min l.length k - 0 := by rw [List.length_take]; omega
  rw [e1]
  have e2 : (l.take k).flatMap f = ((l.flatMap f).drop (0 * sz)).take ((min l.length k - 0) * sz) := by
    rw [Nat.zero_mul, List.drop_zero, ← (flat_cut l hf _).1]
    congr 1
    by_cases h4 : k ≤ l.length
    · rw [Nat.min_eq_right h4, Nat.sub_zero]
    · rw [Nat.min_eq_left (by omega), Nat.sub_zero, List.take_of_length_le (Nat.le_refl l.length), List.take_of_length_le (by omega)]
  rw [e2]
  exact h1
theorem vals_flat {n : Nat} (k : IntKind) (l : List (BitVec n)) : valsL k l = l.flatMap fun x => [Value.int k (bvi x)] := by
  induction l with
  | nil => rfl
  | cons x l ih => rw [List.flatMap_cons, ← ih]; rfl
theorem few_rd (s : ScnR) (v : ScnV) (u : Value) (w w' : World) (h : ScnFS w s v) (hb : ∀ b, b < w.heap.size → w'.heap[b]? = w.heap[b]?) (hu : RdV w' 2 u (fewS s).texs.length ((fewS s).texs.flatMap TexR.c)) : ScnRd w' (fewS s) (fewV s v u) where
  t := (cut_rd h.t fun _ _ => rfl).rd.later (by omega) hb
  m := (cut_rd h.m fun _ _ => rfl).rd.later (by omega) hb
  x := hu
  px t ht := by
    obtain ⟨u, hu, rfl⟩ := List.mem_map.1 ht
    have h1 := h.px u (List.mem_of_mem_take hu)
    unfold pxL at h1
    exact (cut_rd (k := 260) h1 fun _ _ => rfl).rd.later (by omega) hb
  l := (cut_rd h.l fun _ _ => rfl).rd.later (by omega) hb
  i := by
    have h1 := h.i
    rw [vals_flat] at h1
    have := (cut_rd (k := 20) h1 fun _ _ => rfl).rd.later (by omega) hb
    rw [← vals_flat] at this
    exact this
  b := by
    have h1 := h.b
    rw [vals_flat] at h1
    have := (cut_rd (k := 20) h1 fun _ _ => rfl).rd.later (by omega) hb
    rw [← vals_flat] at this
    exact this
theorem recA_sz6 (r : RecS) (h : r.ok) (v : Value) : (recA r v).size = 93 := (recF r h v).size
theorem recA_all6 (r : RecS) (v : Value) (hv : v.oneCell' = true) : (recA r v).all (·.oneCell') = true := by
  have hvl : ∀ l : List (BitVec 8), (vals .u8 l).all (·.oneCell') = true := fun l => by
    simp only [vals, valsL, List.all_toArray, List.all_map, List.all_eq_true]
    exact fun _ _ => rfl
  have h1 : (#[.int .i64 r.layer] ++ r.view.c ++ r.steps.c : Array Value).all (·.oneCell') = true := by kernel_rfl
  unfold recA
  rw [Array.all_append, Array.all_append, Array.all_append, hvl, hvl, h1]
  have h2 : (#[v, .int .u32 (bvi r.label), .int .u32 (bvi r.frm), .int .u32 (bvi r.til)] : Array Value).all (·.oneCell') = true := by
    simp only [List.all_toArray, List.all_cons, hv]
    rfl
  rw [h2]
  rfl
def zRec6 : RecS := ⟨0, ⟨0, 0, 0, 0, 0, 0, ⟨⟨0, 0, 0⟩, ⟨0, 0, 0⟩, ⟨0, 0, 0⟩, ⟨0, 0, 0⟩, 0, 0⟩, false⟩, ⟨0, 0, 0⟩, 0, 0, 0, List.replicate 32 0, List.replicate 32 0⟩
theorem zRec6_ok : zRec6.ok := ⟨rfl, rfl⟩
/-- The record made, its sums still empty; and with them. -/
def rMade (l : Int) (V : ViewS) (n : StepS) (s : ScnR) (a b : List (BitVec 8)) : RecS := ⟨l, V, n, s.label, s.frm, s.til, a, b⟩
attribute [local irreducible] Calls Walk1 WalkTo Tri EndA
theorem clone64_any (v : Value) (l : List (BitVec 64)) (w : World) (hv : RdV w 1 v l.length (valsL .u64 l)) (hn : l.length ≤ 1000000) :
    Calls Try.prog 14 #[v] w (RetOwn w 27 1 l.length (valsL .u64 l)) := by
  have hv0 := hv
  obtain ⟨_, a, c, rfl, h⟩ := hv0
  cases a with
  | none =>
    have h0 : l.length = 0 := by
      rcases h with h | ⟨b, off, h, _⟩
      · exact h
      · cases h
    obtain rfl : l = [] := List.eq_nil_of_length_eq_zero h0
    refine calls_tri Try.func14 rfl Try.ntmps14 rfl ?_
    repeat (first | (show Walk1 _ _ _ (_ :: _) _ _; first | (show Walk1 _ _ _ (⟨_, .move _, _, _, _, _⟩ :: _) _ _; refine walk1_t (op_move rfl rfl rfl rfl) ?_) | (show Walk1 _ _ _ (⟨_, .assign _, _, _, _, _⟩ :: _) _ _; refine walk1_t (op_assign rfl rfl rfl rfl) ?_) | (show Walk1 _ _ _ (⟨_, .binOp .eql _ _ _ _, _, _, _, _⟩ :: _) _ _; refine walk1_t (op_eqNilG rfl rfl rfl rfl rfl rfl) ?_)) | refine go1 ?_ | refine end_block_other rfl ?_ | refine end_scope (fun _ h => by cases h) ?_ | (refine walk_endD ?_ ?_; (· kernel_rfl)) | refine tri_yesA rfl ?_ | refine tri_noA rfl ?_ | refine tri_trueA rfl ?_ | refine tri_falseA rfl ?_)
    refine end_ret (.c (.slice none 0 0)) (res_tmp rfl rfl) ?_
    exact fin_ownNil
  | some ad =>
    generalize l.length = n at *
    refine calls_tri Try.func14 rfl Try.ntmps14 rfl ?_
    repeat (first | (show Walk1 _ _ _ (_ :: _) _ _; first | (show Walk1 _ _ _ (⟨_, .move _, _, _, _, _⟩ :: _) _ _; refine walk1_t (op_move rfl rfl rfl rfl) ?_) | (show Walk1 _ _ _ (⟨_, .assign _, _, _, _, _⟩ :: _) _ _; refine walk1_t (op_assign rfl rfl rfl rfl) ?_) | (show Walk1 _ _ _ (⟨_, .binOp .eql _ _ _ _, _, _, _, _⟩ :: _) _ _; refine walk1_t (op_eqNilC rfl rfl rfl rfl rfl rfl) ?_) | (show Walk1 _ _ _ (⟨_, .buildSlice _ _ _, _, _, _, _⟩ :: _) _ _; refine walk1_n (op_bslice0 (k := .u8) (m := 8) rfl rfl rfl rfl rfl rfl rfl) (by kernel_rfl) ?_)) | refine go1 ?_ | refine end_block_other rfl ?_ | refine end_scope (fun _ h => by cases h) ?_ | (refine walk_endD ?_ ?_; (· kernel_rfl)) | refine tri_yesA rfl ?_ | refine tri_noA rfl ?_ | refine tri_trueA rfl ?_ | refine tri_falseA rfl ?_)
    show Walk1 _ _ _ _ ⟨_, [(5, some (Res.own 5 27 1 0 (valsL .u64 ([] : List (BitVec 64)))))]⟩ _
    repeat (first | (show Walk1 _ _ _ (_ :: _) _ _; first | (show Walk1 _ _ _ (⟨_, .assign _, _, _, _, _⟩ :: _) _ _; refine walk1_t (op_assign rfl rfl rfl rfl) ?_) | (show Walk1 _ _ _ (⟨_, .call ⟨.builtin .append, _, _⟩, _, _, _, _⟩ :: _) _ _; refine walk1_g (op_appendB rfl rfl rfl rfl rfl rfl rfl rfl rfl) (by kernel_rfl) ?_)) | refine go1 ?_ | refine end_block_other rfl ?_ | refine end_scope (fun _ h => by cases h) ?_ | (refine walk_endD ?_ ?_; (· kernel_rfl)) | refine tri_yesA rfl ?_ | refine tri_noA rfl ?_ | refine tri_trueA rfl ?_ | refine tri_falseA rfl ?_)
    rw [List.nil_append, Nat.zero_add]
    refine end_ret (.v 7) (res_tmp rfl rfl) ?_
    exact fin_own rfl
end Go.Proofs.Ytihbiejgebmeaaa
