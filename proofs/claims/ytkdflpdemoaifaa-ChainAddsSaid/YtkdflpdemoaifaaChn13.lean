/- The law ChainVerifies: walked. No condition. -/
import Derived.Test.YtkdflpdemoaifaaChn11
import Derived.Test.YtkdflpdemoaifaaChn8
namespace Go.Proofs.Ytkdflpdemoaifaa
open Go.RowKit
set_option maxRecDepth 100000
set_option maxHeartbeats 4000000
/-- What few leaves of a slice of entries. -/
theorem few32_cut {w : World} {v : Value} {es : List Ent32} (hv : FS w 36 v es.length (entsC es)) (hok : ∀ e ∈ es, e.ok) : ∃ D u, D = es.take (min es.length 10) ∧ D.length = min es.length 10 ∧ D.length ≤ 10 ∧ (∀ e ∈ D, e.ok) ∧ FS w 36 u D.length (entsC D) ∧ cutZ 36 v 0 (min es.length 10) = u := by
  have h := hv.cutE (fun e he => entC_length e (hok e he)) (lo := 0) (len := min es.length 10) (by omega)
  rw [List.drop_zero] at h
  have hl : (es.take (min es.length 10)).length = min es.length 10 := by rw [List.length_take]; omega
  refine ⟨es.take (min es.length 10), cutZ 36 v 0 (min es.length 10), rfl, hl, by omega, fun e he => hok e (List.mem_of_mem_take he), ?_, rfl⟩
  rw [hl]
  exact h
attribute [local irreducible] Calls Walk1 WalkTo Tri EndA
theorem chainVerifies_walk (layer : Int) (hl : okI layer) (v : Value) (es : List Ent32) (hok : ∀ e ∈ es, e.ok) (head : List (BitVec 8)) (hh : head.length = 32) (w : World) (hv : FS w 36 v es.length (entsC es)) :
    Calls Try.prog 18 #[.int .i64 layer, v, .agg (vals .u8 head)] w fun e w' => e = .returned (.bool true) ∧ Below w.heap.size w w' := by
  obtain ⟨D, u, _, _, hD10, hDok, hfx, hcv⟩ := few32_cut hv hok
  have hrd := hv.rd
  have hsl := hv.2
  have cf := fun w h => few32_any v es.length (entsC es) w ⟨h, hsl⟩
  rw [hcv] at cf
  have hdr := hfx.rd
  have cV := fun w h => chVerify_any layer hl u D hDok (by omega) head hh w h
  have cR := fun w h => refVerify_any layer hl u D hDok (by omega) head hh w h
  have hHl := headL_length (startL layer) D (startL_length layer)
  have cH := fun w h => refHead_any layer hl u D hDok (by omega) w h
  have cV2 := fun w h => chVerify_any layer hl u D hDok (by omega) (headL (startL layer) D) hHl w h
  have cR2 := fun w h => refVerify_any layer hl u D hDok (by omega) (headL (startL layer) D) hHl w h
  have cw := fun w => works32_any w
  clear hcv hfx hsl
  generalize verL layer D (headL (startL layer) D) = V2 at *
  generalize verL layer D head = V at *
  generalize headL (startL layer) D = H at *
  refine calls_tri Try.func18 rfl Try.ntmps18 rfl ?_
  repeat (first | (show Walk1 _ _ _ (_ :: _) _ _; first | (show Walk1 _ _ _ (⟨_, .move _, _, _, _, _⟩ :: _) _ _; first | refine walk1_t (op_move rfl rfl rfl rfl) ?_) | (show Walk1 _ _ _ (⟨_, .assign _, _, _, _, _⟩ :: _) _ _; first | refine walk1_t (op_assign rfl rfl rfl rfl) ?_) | (show Walk1 _ _ _ (⟨_, .box _ _, _, _, _, _⟩ :: _) _ _; first | refine walk1_n (op_box rfl rfl rfl rfl rfl) (by kernel_rfl) ?_) | (show Walk1 _ _ _ (⟨_, .call ⟨.value (.func 53), _, _⟩, _, _, _, _⟩ :: _) _ _; first | (refine walk1_callM rfl rfl rfl rfl (by repeat (first | exact evs_nil | apply evs_cons rfl)) rfl ?_; refine ⟨_, _, callM_1 (rdn_old hrd (by omega) rfl) (fun e w h1 => cf w h1), ?_⟩))) | (show WalkTo _ _ _ _ (_ :: _) _ _ _; first | (show WalkTo _ _ _ _ (⟨_, _, _, _, _, some _⟩ :: _) _ _ _; first | refine walk_yes rfl rfl (by first | exact decide_eq_true (by omega) | exact decide_eq_false (by omega) | rfl | (show _ = true; with_reducible assumption) | (show _ = false; with_reducible assumption) | (simp <;> fail) | omega) ?_) | (show WalkTo _ _ _ _ (⟨_, .move _, _, _, _, _⟩ :: _) _ _ _; first | refine walk_t (op_move rfl rfl rfl rfl) ?_) | (show WalkTo _ _ _ _ (⟨_, .assign _, _, _, _, _⟩ :: _) _ _ _; first | refine walk_t (op_assign rfl rfl rfl rfl) ?_) | (show WalkTo _ _ _ _ (⟨_, .binOp .eql _ _ _ _, _, _, _, _⟩ :: _) _ _ _; first | refine walk_t (op_eqI rfl rfl rfl rfl rfl) ?_) | (show WalkTo _ _ _ _ (⟨_, .pick _ _ _, _, _, _, _⟩ :: _) _ _ _; first | refine walk_t (op_pickY rfl rfl rfl rfl (by first | exact decide_eq_true (by omega) | exact decide_eq_false (by omega) | rfl | (show _ = true; with_reducible assumption) | (show _ = false; with_reducible assumption) | (simp <;> fail) | omega) rfl) ?_) | (show WalkTo _ _ _ _ (⟨_, .load _ _, _, _, _, _⟩ :: _) _ _ _; first | refine walk_t (op_loads rfl rfl rfl rfl rfl rfl rfl rfl) ?_) | (show WalkTo _ _ _ _ (⟨_, .call ⟨.value (.func 70), _, _⟩, _, _, _, _⟩ :: _) _ _ _; first | (refine walk_callM rfl rfl rfl rfl (by repeat (first | exact evs_nil | apply evs_cons rfl)) rfl ?_; refine ⟨_, _, callM_1 (rdn_old hdr (by omega) rfl) (fun e w h1 => cV w h1), ?_⟩)) | (show WalkTo _ _ _ _ (⟨_, .call ⟨.value (.func 70), _, _⟩, _, _, _, _⟩ :: _) _ _ _; first | (refine walk_callM rfl rfl rfl rfl (by repeat (first | exact evs_nil | apply evs_cons rfl)) rfl ?_; refine ⟨_, _, callM_1 (rdn_old hdr (by omega) rfl) (fun e w h1 => cV2 w h1), ?_⟩)) | (show WalkTo _ _ _ _ (⟨_, .call ⟨.value (.func 71), _, _⟩, _, _, _, _⟩ :: _) _ _ _; first | (refine walk_callM rfl rfl rfl rfl (by repeat (first | exact evs_nil | apply evs_cons rfl)) rfl ?_; refine ⟨_, _, callM_1 (rdn_old hdr (by omega) rfl) (fun e w h1 => cR w h1), ?_⟩)) | (show WalkTo _ _ _ _ (⟨_, .call ⟨.value (.func 71), _, _⟩, _, _, _, _⟩ :: _) _ _ _; first | (refine walk_callM rfl rfl rfl rfl (by repeat (first | exact evs_nil | apply evs_cons rfl)) rfl ?_; refine ⟨_, _, callM_1 (rdn_old hdr (by omega) rfl) (fun e w h1 => cR2 w h1), ?_⟩)) | (show WalkTo _ _ _ _ (⟨_, .call ⟨.value (.func 62), _, _⟩, _, _, _, _⟩ :: _) _ _ _; first | (refine walk_callM rfl rfl rfl rfl (by repeat (first | exact evs_nil | apply evs_cons rfl)) rfl ?_; refine ⟨_, _, callM_1 (rdn_old hdr (by omega) rfl) (fun e w h1 => cH w h1), ?_⟩)) | (show WalkTo _ _ _ _ (⟨_, .call ⟨.value (.func 57), _, _⟩, _, _, _, _⟩ :: _) _ _ _; first | ((first | refine walk_call rfl rfl rfl rfl (by repeat (first | exact evs_nil | apply evs_cons rfl)) rfl ?_ | refine walk_call0 rfl rfl rfl (by repeat (first | exact evs_nil | apply evs_cons rfl)) rfl ?_); refine ⟨_, fun e w => cw w, ?_⟩))) | refine tri_seq ?_ | refine tri_block ?_ | refine tri_scope ?_ | refine tri_skip ?_ | refine tri_label ?_ | refine tri_ret ?_ | refine tri_exit ?_ | refine end_seq ?_ | refine end_block_exit ?_ | refine end_block_other rfl ?_ | refine end_block ?_ | refine end_block_ret ?_ | refine end_then_exit ?_ | refine end_then_ret ?_ | refine end_then ?_ | refine end_scope (fun _ h => by cases h) ?_ | refine tri_reg ?_ | refine tri_draw ?_ | refine walk1_end ?_ | (refine walk_endD ?_ ?_; (· kernel_rfl)) | refine tri_yes rfl (by first | omega | (simp <;> fail) | assumption) ?_ | refine tri_no rfl (by first | omega | (simp <;> fail) | assumption) ?_ | refine tri_true rfl (by first | with_reducible rfl | with_reducible exact Bool.not_false | with_reducible assumption) ?_ | refine tri_false rfl (by first | with_reducible rfl | with_reducible exact Bool.not_true | with_reducible assumption) ?_)
  refine end_ret (.c (.bool true)) (res_tmp rfl (by first | rfl | simp)) ?_
  exact fin_below fun _ => rfl
end Go.Proofs.Ytkdflpdemoaifaa
