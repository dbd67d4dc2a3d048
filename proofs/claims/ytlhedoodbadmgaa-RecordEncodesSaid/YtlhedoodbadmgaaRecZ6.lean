/- Records that are not longer than the law's own looks go: walked. No condition. -/
import Derived.Test.YtlhedoodbadmgaaRecW4
namespace Go.Proofs.Ytlhedoodbadmgaa
open Go.RowKit
set_option maxRecDepth 100000
set_option maxHeartbeats 400000
theorem vals_one8' (l : List (BitVec 8)) : (vals .u8 l).all (·.oneCell') = true := by
  simp [vals, valsL]
  intro x _
  rfl
theorem recA_cut (r : RecS) : ∃ X Y : Array Value, X.size = 25 ∧ X.all (·.oneCell') = true ∧ Y.all (·.oneCell') = true ∧ ∀ v, recA r v = X ++ (#[v] ++ Y) := by
  refine ⟨#[.int .i64 r.layer] ++ r.view.c ++ r.steps.c, #[.int .u32 (bvi r.label), .int .u32 (bvi r.frm), .int .u32 (bvi r.til)] ++ (vals .u8 r.scene ++ vals .u8 r.planes), by kernel_rfl, ?_, ?_, fun v => ?_⟩
  · kernel_rfl
  · rw [Array.all_append, Array.all_append, vals_one8', vals_one8']
    kernel_rfl
  · generalize hP : (#[.int .i64 r.layer] ++ r.view.c ++ r.steps.c : Array Value) = P
    have h1 : recA r v = P ++ (#[v] ++ #[.int .u32 (bvi r.label), .int .u32 (bvi r.frm), .int .u32 (bvi r.til)]) ++ vals .u8 r.scene ++ vals .u8 r.planes := by rw [← hP]; kernel_rfl
    rw [h1]
    simp only [Array.append_assoc]
theorem recA_one (r : RecS) (v : Value) (hv : v.oneCell' = true) : (recA r v).all (·.oneCell') = true := by
  obtain ⟨X, Y, _, h1, h2, h3⟩ := recA_cut r
  rw [h3, Array.all_append, Array.all_append, h1, h2]
  simp [hv]
theorem recA_set (r : RecS) (v u : Value) : (recA r v).setIfInBounds 25 u = recA r u := by
  obtain ⟨X, Y, h0, _, _, h3⟩ := recA_cut r
  rw [h3, h3]
  apply Array.ext'
  have h0' : X.toList.length = 25 := by simpa using h0
  simp [List.set_append_right, h0']
theorem cutV_one (v : Value) (lo len : Nat) (h : ∃ a n c, v = .slice a n c) : (cutV v lo len).oneCell' = true := by
  obtain ⟨a, n, c, rfl⟩ := h
  rfl
attribute [local irreducible] Calls Walk1 WalkTo Tri EndA
theorem few31_any (r : RecS) (hok : r.ok) (x : List (BitVec 64)) (v : Value) (w : World) (hv : FS w 1 v x.length (valsL .u64 x)) : Calls Try.prog 17 #[.agg (recA r v)] w fun e w' => e = .returned (.agg (recA r (cutV v 0 (min x.length 30 - 0)))) ∧ Below w.heap.size w w' := by
  have hF := recF r hok v
  have f0 := hF.size
  have f5 := hF.ids
  have hF2 := recF r hok (cutV v 0 (min x.length 30 - 0))
  have g0 := hF2.size
  have hsl : ∃ a n c, v = .slice a n c := by obtain ⟨_, a, c, h, _⟩ := hv; exact ⟨a, _, c, h⟩
  have g1 := recA_one r (cutV v 0 (min x.length 30 - 0)) (cutV_one v 0 _ hsl)
  have hset := recA_set r v (cutV v 0 (min x.length 30 - 0))
  have hvo : (cutV v 0 (min x.length 30 - 0)).oneCell' = true := cutV_one v 0 _ hsl
  have hrd := hv.rd
  have hlt : 25 < (recA r v).size := by rw [f0]; omega
  have hm : min x.length 30 ≤ x.length := Nat.min_le_left ..
  clear hF hF2
  generalize recA r (cutV v 0 (min x.length 30 - 0)) = A2 at *
  generalize recA r v = A at *
  refine calls_tri Try.func17 rfl Try.ntmps17 rfl ?_
  repeat (first | (show Walk1 _ _ _ (_ :: _) _ _; first | (show Walk1 _ _ _ (⟨_, .load _ _, _, _, _, _⟩ :: _) _ _; first | refine walk1_t (op_load rfl rfl rfl rfl rfl rfl rfl (ld_any (by with_reducible assumption))) ?_) | (show Walk1 _ _ _ (⟨_, .alloc _, _, _, _, _⟩ :: _) _ _; first | refine walk1_n (op_alloc rfl rfl rfl rfl rfl) (by kernel_rfl) ?_) | (show Walk1 _ _ _ (⟨_, .box _ _, _, _, _, _⟩ :: _) _ _; first | refine walk1_n (op_box rfl rfl rfl rfl rfl) (by kernel_rfl) ?_) | (show Walk1 _ _ _ (⟨_, .fieldAddr _ _ _, _, _, _, _⟩ :: _) _ _; first | refine walk1_t (op_fldT rfl rfl rfl rfl rfl rfl off_zero) ?_) | (show Walk1 _ _ _ (⟨_, .call ⟨.builtin .len, _, _⟩, _, _, _, _⟩ :: _) _ _; first | refine walk1_t (op_lenF rfl rfl rfl (by first | assumption | exact FS.rd (by first | assumption | exact FSX.fs (by assumption) | (refine FS.cutB (by assumption) ?_; omega) | (refine FS.cut (by assumption) ?_; omega)))) ?_) | (show Walk1 _ _ _ (⟨_, .call ⟨.builtin .min, _, _⟩, _, _, _, _⟩ :: _) _ _; first | refine walk1_t (op_minN rfl (by first | exact evN_const rfl | exact rfl) (by first | exact evN_const rfl | exact rfl)) ?_) | (show Walk1 _ _ _ (⟨_, .slice _ _ _ _ _, _, _, _, _⟩ :: _) _ _; first | refine walk1_t (op_cutF rfl rfl rfl rfl rfl rfl) ?_)) | refine tri_seq ?_ | refine tri_block ?_ | refine tri_scope ?_ | refine tri_skip ?_ | refine tri_label ?_ | refine tri_ret ?_ | refine tri_exit ?_ | refine end_seq ?_ | refine end_block_exit ?_ | refine end_block_other rfl ?_ | refine end_block ?_ | refine end_block_ret ?_ | refine end_then_exit ?_ | refine end_then_ret ?_ | refine end_then ?_ | refine end_scope (fun _ h => by cases h) ?_ | refine tri_reg ?_ | refine tri_draw ?_ | refine walk1_end ?_ | (refine walk_endD ?_ ?_; (· kernel_rfl)) | refine tri_yes rfl (by first | omega | (simp <;> fail) | assumption) ?_ | refine tri_no rfl (by first | omega | (simp <;> fail) | assumption) ?_ | refine tri_true rfl (by first | with_reducible rfl | with_reducible exact Bool.not_false | with_reducible assumption) ?_ | refine tri_false rfl (by first | with_reducible rfl | with_reducible exact Bool.not_true | with_reducible assumption) ?_)
  refine walk1_b (op_store (A' := .c A2) rfl rfl rfl rfl rfl rfl rfl (fun _ => hvo) (fun _ => hlt) (fun _ => hset)) ?_
  clear hset hlt f0 f5 hv hrd
  repeat (first | (show Walk1 _ _ _ (_ :: _) _ _; first | (show Walk1 _ _ _ (⟨_, .load _ _, _, _, _, _⟩ :: _) _ _; first | refine walk1_t (op_loadsC rfl rfl rfl rfl rfl rfl rfl rfl (sm_c (by assumption)) ag_c) ?_) | (show Walk1 _ _ _ (⟨_, .store _ _ _, _, _, _, _⟩ :: _) _ _; first | refine walk1_b (op_storesC rfl rfl rfl rfl rfl rfl rfl (by with_reducible assumption) (by with_reducible assumption)) ?_)) | refine tri_seq ?_ | refine tri_block ?_ | refine tri_scope ?_ | refine tri_skip ?_ | refine tri_label ?_ | refine tri_ret ?_ | refine tri_exit ?_ | refine end_seq ?_ | refine end_block_exit ?_ | refine end_block_other rfl ?_ | refine end_block ?_ | refine end_block_ret ?_ | refine end_then_exit ?_ | refine end_then_ret ?_ | refine end_then ?_ | refine end_scope (fun _ h => by cases h) ?_ | refine tri_reg ?_ | refine tri_draw ?_ | refine walk1_end ?_ | (refine walk_endD ?_ ?_; (· kernel_rfl)) | refine tri_yes rfl (by first | omega | (simp <;> fail) | assumption) ?_ | refine tri_no rfl (by first | omega | (simp <;> fail) | assumption) ?_ | refine tri_true rfl (by first | with_reducible rfl | with_reducible exact Bool.not_false | with_reducible assumption) ?_ | refine tri_false rfl (by first | with_reducible rfl | with_reducible exact Bool.not_true | with_reducible assumption) ?_)
  refine end_ret _ (res_cells rfl rfl rfl rfl rfl rfl (sm_c g0) ag_c) ?_
  exact fin_below fun _ => rfl
end Go.Proofs.Ytlhedoodbadmgaa
