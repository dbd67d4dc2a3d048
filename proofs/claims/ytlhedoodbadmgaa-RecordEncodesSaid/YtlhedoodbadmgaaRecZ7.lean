/- The law RecordEncodes: walked. No condition. -/
import Derived.Test.YtlhedoodbadmgaaRecX2
import Derived.Test.YtlhedoodbadmgaaRecY3
import Derived.Test.YtlhedoodbadmgaaRecZ5
import Derived.Test.YtlhedoodbadmgaaRecZ6
namespace Go.Proofs.Ytlhedoodbadmgaa
open Go.RowKit
set_option maxRecDepth 100000
set_option maxHeartbeats 1000000
attribute [local irreducible] Calls Walk1 WalkTo Tri EndA
theorem recordEncodes_walk (r s : RecS) (hr : r.ok) (hs : s.ok) (x y : List (BitVec 64)) (v u : Value) (w : World) (hv : FS w 1 v x.length (valsL .u64 x)) (hu : FS w 1 u y.length (valsL .u64 y)) :
    Calls Try.prog 5 #[.agg (recA r v), .agg (recA s u)] w fun e w' => e = .returned (.bool true) ∧ Below w.heap.size w w' := by
  have vs : ∃ a n c, v = .slice a n c := by obtain ⟨_, a, c, h, _⟩ := hv; exact ⟨a, _, c, h⟩
  have us : ∃ a n c, u = .slice a n c := by obtain ⟨_, a, c, h, _⟩ := hu; exact ⟨a, _, c, h⟩
  have hmx : 0 + (min x.length 30 - 0) ≤ x.length := by omega
  have hmy : 0 + (min y.length 30 - 0) ≤ y.length := by omega
  have hv2 := hv.cutB hmx
  have hu2 := hu.cutB hmy
  have a0 := (recF r hr v).size
  have b0 := (recF s hs u).size
  have hsv := hv.2
  have hsu := hu.2
  have hrv := hv.rd
  have hru := hu.rd
  have cfr := fun w h => few31_any r hr x v w ⟨h, hsv⟩
  have cfs := fun w h => few31_any s hs y u w ⟨h, hsu⟩
  have h1v := cutV_one v 0 (min x.length 30 - 0) vs
  have h1u := cutV_one u 0 (min y.length 30 - 0) us
  have hlx : ((x.drop 0).take (min x.length 30 - 0)).length = min x.length 30 - 0 := by rw [List.drop_zero, List.length_take]; omega
  have hly : ((y.drop 0).take (min y.length 30 - 0)).length = min y.length 30 - 0 := by rw [List.drop_zero, List.length_take]; omega
  have hv3 : FS w 1 (cutV v 0 (min x.length 30 - 0)) ((x.drop 0).take (min x.length 30 - 0)).length (valsL .u64 ((x.drop 0).take (min x.length 30 - 0))) := by rw [hlx]; exact hv2
  have hu3 : FS w 1 (cutV u 0 (min y.length 30 - 0)) ((y.drop 0).take (min y.length 30 - 0)).length (valsL .u64 ((y.drop 0).take (min y.length 30 - 0))) := by rw [hly]; exact hu2
  have hx30 : ((x.drop 0).take (min x.length 30 - 0)).length ≤ 30 := by omega
  have hy30 : ((y.drop 0).take (min y.length 30 - 0)).length ≤ 30 := by omega
  clear hlx hly vs us hmx hmy hv2 hu2
  generalize cutV v 0 (min x.length 30 - 0) = v2 at *
  generalize cutV u 0 (min y.length 30 - 0) = u2 at *
  generalize (x.drop 0).take (min x.length 30 - 0) = x2 at *
  generalize (y.drop 0).take (min y.length 30 - 0) = y2 at *
  have hFr := recF r hr v2
  have hFs := recF s hs u2
  have hv3s := hv3.2
  have hv3r := hv3.rd
  have hu3r := hu3.rd
  have vs2 : ∃ a c, v2 = .slice a x2.length c := by obtain ⟨_, a, c, h, _⟩ := hv3; exact ⟨a, c, h⟩
  have cE := fun w h => encode_any r hr x2 (by omega) v2 (recA r v2) hFr w ⟨h, hv3s⟩
  have cR := fun w h => refEncode_any r hr x2 (by omega) v2 (recA r v2) hFr w ⟨h, hv3s⟩
  have cC := fun w => recCheck_any r v2 (recA r v2) x2.length vs2 (by omega) hFr w
  have cD := fun w => refRecCheck_any r v2 (recA r v2) x2.length vs2 (by omega) hFr w
  have cS := fun w h h2 => recSame_any r s hr hs x2 y2 (by omega) v2 u2 (recA r v2) (recA s u2) hFr hFs w h h2
  have cT := fun w h h2 => refSame_any r s hr hs x2 y2 (by omega) v2 u2 (recA r v2) (recA s u2) hFr hFs w h h2
  have cV := fun w h h2 => recSame_any r r hr hr x2 x2 (by omega) v2 v2 (recA r v2) (recA r v2) hFr hFr w h h2
  have cq := fun v v' w h h2 => equal_any v v' (encL r x2) (encL r x2) w h h2
  rw [beq_self_eq_true] at cq
  rw [sameR_refl] at cV
  have cw := fun w => works31_any w
  have A0s := hFr.size
  have B0s := hFs.size
  have A0o := recA_one r v2 h1v
  have B0o := recA_one s u2 h1u
  clear hFr hFs hv hu hv3 hu3 hsv hsu hv3s vs2 h1v h1u hr hs
  generalize encL r x2 = EL at *
  generalize recE r = E at *
  generalize sameR r s x2 y2 = SQ at *
  generalize recA r v2 = A2 at *
  generalize recA s u2 = B2 at *
  generalize recA r v = A at *
  generalize recA s u = B at *
  refine calls_tri Try.func5 rfl Try.ntmps5 rfl ?_
  iterate 13 (try (first | (show Walk1 _ _ _ (_ :: _) _ _; first | (show Walk1 _ _ _ (⟨_, .assign _, _, _, _, _⟩ :: _) _ _; first | refine walk1_t (op_assign rfl rfl rfl rfl) ?_) | (show Walk1 _ _ _ (⟨_, .box _ _, _, _, _, _⟩ :: _) _ _; first | refine walk1_n (op_box rfl rfl rfl rfl rfl) (by kernel_rfl) ?_)) | (show WalkTo _ _ _ _ (_ :: _) _ _ _; first | (show WalkTo _ _ _ _ (⟨_, .load _ _, _, _, _, _⟩ :: _) _ _ _; first | refine walk_t (op_loadsC rfl rfl rfl rfl rfl rfl rfl rfl (sm_c (by assumption)) ag_c) ?_) | (show WalkTo _ _ _ _ (⟨_, .call ⟨.value (.func 17), _, _⟩, _, _, _, _⟩ :: _) _ _ _; first | (refine walk_callM rfl rfl rfl rfl (by repeat (first | exact evs_nil | apply evs_cons rfl)) rfl ?_; refine ⟨_, _, callM_1 (rdn_old hrv (by omega) rfl) (fun e w h1 => cfr w h1), ?_⟩)) | (show WalkTo _ _ _ _ (⟨_, .call ⟨.value (.func 17), _, _⟩, _, _, _, _⟩ :: _) _ _ _; first | (refine walk_callM rfl rfl rfl rfl (by repeat (first | exact evs_nil | apply evs_cons rfl)) rfl ?_; refine ⟨_, _, callM_1 (rdn_old hru (by omega) rfl) (fun e w h1 => cfs w h1), ?_⟩))) | refine tri_seq ?_ | refine tri_block ?_ | refine tri_scope ?_ | refine tri_skip ?_ | refine tri_label ?_ | refine tri_ret ?_ | refine tri_exit ?_ | refine end_seq ?_ | refine end_block_exit ?_ | refine end_block_other rfl ?_ | refine end_block ?_ | refine end_block_ret ?_ | refine end_then_exit ?_ | refine end_then_ret ?_ | refine end_then ?_ | refine end_scope (fun _ h => by cases h) ?_ | refine tri_reg ?_ | refine tri_draw ?_ | refine walk1_end ?_ | (refine walk_endD ?_ ?_; (· kernel_rfl)) | refine tri_yes rfl (by first | omega | (simp <;> fail) | assumption) ?_ | refine tri_no rfl (by first | omega | (simp <;> fail) | assumption) ?_ | refine tri_true rfl (by first | with_reducible rfl | with_reducible exact Bool.not_false | with_reducible assumption) ?_ | refine tri_false rfl (by first | with_reducible rfl | with_reducible exact Bool.not_true | with_reducible assumption) ?_))
  refine walk_b (op_storesC rfl rfl rfl rfl rfl rfl rfl A0s A0o (fun _ => a0)) ?_
  refine walk_b (op_storesC rfl rfl rfl rfl rfl rfl rfl B0s B0o (fun _ => b0)) ?_
  repeat (first | (show Walk1 _ _ _ (_ :: _) _ _; first | (show Walk1 _ _ _ (⟨_, .move _, _, _, _, _⟩ :: _) _ _; first | refine walk1_t (op_move rfl rfl rfl rfl) ?_) | (show Walk1 _ _ _ (⟨_, .assign _, _, _, _, _⟩ :: _) _ _; first | refine walk1_t (op_assign rfl rfl rfl rfl) ?_) | (show Walk1 _ _ _ (⟨_, .load _ _, _, _, _, _⟩ :: _) _ _; first | refine walk1_t (op_loadsC rfl rfl rfl rfl rfl rfl rfl rfl (sm_c (by assumption)) ag_c) ?_) | (show Walk1 _ _ _ (⟨_, .extract _ _, _, _, _, _⟩ :: _) _ _; first | refine walk1_t (op_extract rfl rfl rfl rfl rfl) ?_) | (show Walk1 _ _ _ (⟨_, .call ⟨.value (.func 18), _, _⟩, _, _, _, _⟩ :: _) _ _; first | (refine walk1_callOT rfl rfl rfl rfl (by kernel_rfl) (by repeat (first | exact evs_nil | apply evs_cons rfl)) rfl ?_; refine ⟨_, _, _, _, _, _, callOT_1 (rdn_old hv3r (by omega) rfl) (fun e w h1 => cE w h1), ?_⟩)) | (show Walk1 _ _ _ (⟨_, .call ⟨.value (.func 19), _, _⟩, _, _, _, _⟩ :: _) _ _; first | (refine walk1_callOT rfl rfl rfl rfl (by kernel_rfl) (by repeat (first | exact evs_nil | apply evs_cons rfl)) rfl ?_; refine ⟨_, _, _, _, _, _, callOT_1 (rdn_old hv3r (by omega) rfl) (fun e w h1 => cR w h1), ?_⟩))) | (show WalkTo _ _ _ _ (_ :: _) _ _ _; first | (show WalkTo _ _ _ _ (⟨_, _, _, _, _, some _⟩ :: _) _ _ _; first | refine walk_yes rfl rfl (by first | exact decide_eq_true (by omega) | exact decide_eq_false (by omega) | rfl | (show _ = true; with_reducible assumption) | (show _ = false; with_reducible assumption) | (simp <;> fail) | omega) ?_) | (show WalkTo _ _ _ _ (⟨_, .move _, _, _, _, _⟩ :: _) _ _ _; first | refine walk_t (op_move rfl rfl rfl rfl) ?_) | (show WalkTo _ _ _ _ (⟨_, .assign _, _, _, _, _⟩ :: _) _ _ _; first | refine walk_t (op_assign rfl rfl rfl rfl) ?_) | (show WalkTo _ _ _ _ (⟨_, .binOp .eql _ _ _ _, _, _, _, _⟩ :: _) _ _ _; first | refine walk_t (op_eqI rfl rfl rfl rfl rfl) ?_ | refine walk_t (op_eqT rfl rfl rfl rfl rfl rfl) ?_) | (show WalkTo _ _ _ _ (⟨_, .pick _ _ _, _, _, _, _⟩ :: _) _ _ _; first | refine walk_t (op_pickY rfl rfl rfl rfl (by first | exact decide_eq_true (by omega) | exact decide_eq_false (by omega) | rfl | (show _ = true; with_reducible assumption) | (show _ = false; with_reducible assumption) | (simp <;> fail) | omega) rfl) ?_) | (show WalkTo _ _ _ _ (⟨_, .load _ _, _, _, _, _⟩ :: _) _ _ _; first | refine walk_t (op_loadsC rfl rfl rfl rfl rfl rfl rfl rfl (sm_c (by assumption)) ag_c) ?_) | (show WalkTo _ _ _ _ (⟨_, .call ⟨.value (.func 20), _, _⟩, _, _, _, _⟩ :: _) _ _ _; first | ((first | refine walk_call rfl rfl rfl rfl (by repeat (first | exact evs_nil | apply evs_cons rfl)) rfl ?_ | refine walk_call0 rfl rfl rfl (by repeat (first | exact evs_nil | apply evs_cons rfl)) rfl ?_); refine ⟨_, fun e w => cC w, ?_⟩)) | (show WalkTo _ _ _ _ (⟨_, .call ⟨.value (.func 21), _, _⟩, _, _, _, _⟩ :: _) _ _ _; first | ((first | refine walk_call rfl rfl rfl rfl (by repeat (first | exact evs_nil | apply evs_cons rfl)) rfl ?_ | refine walk_call0 rfl rfl rfl (by repeat (first | exact evs_nil | apply evs_cons rfl)) rfl ?_); refine ⟨_, fun e w => cD w, ?_⟩)) | (show WalkTo _ _ _ _ (⟨_, .call ⟨.value (.func 22), _, _⟩, _, _, _, _⟩ :: _) _ _ _; first | (refine walk_callM rfl rfl rfl rfl (by repeat (first | exact evs_nil | apply evs_cons rfl)) rfl ?_; refine ⟨_, _, callM_2 (rdn_own (n := 15) rfl) (rdn_own (n := 20) rfl) (fun e w h1 h2 => cq _ _ w h1 h2), ?_⟩)) | (show WalkTo _ _ _ _ (⟨_, .call ⟨.value (.func 23), _, _⟩, _, _, _, _⟩ :: _) _ _ _; first | (refine walk_callM rfl rfl rfl rfl (by repeat (first | exact evs_nil | apply evs_cons rfl)) rfl ?_; refine ⟨_, _, callM_2 (rdn_old hv3r (by omega) rfl) (rdn_old hu3r (by omega) rfl) (fun e w h1 h2 => cS w h1 h2), ?_⟩)) | (show WalkTo _ _ _ _ (⟨_, .call ⟨.value (.func 11), _, _⟩, _, _, _, _⟩ :: _) _ _ _; first | (refine walk_callM rfl rfl rfl rfl (by repeat (first | exact evs_nil | apply evs_cons rfl)) rfl ?_; refine ⟨_, _, callM_2 (rdn_old hv3r (by omega) rfl) (rdn_old hu3r (by omega) rfl) (fun e w h1 h2 => cT w h1 h2), ?_⟩)) | (show WalkTo _ _ _ _ (⟨_, .call ⟨.value (.func 23), _, _⟩, _, _, _, _⟩ :: _) _ _ _; first | (refine walk_callM rfl rfl rfl rfl (by repeat (first | exact evs_nil | apply evs_cons rfl)) rfl ?_; refine ⟨_, _, callM_2 (rdn_old hv3r (by omega) rfl) (rdn_old hv3r (by omega) rfl) (fun e w h1 h2 => cV w h1 h2), ?_⟩)) | (show WalkTo _ _ _ _ (⟨_, .call ⟨.value (.func 12), _, _⟩, _, _, _, _⟩ :: _) _ _ _; first | ((first | refine walk_call rfl rfl rfl rfl (by repeat (first | exact evs_nil | apply evs_cons rfl)) rfl ?_ | refine walk_call0 rfl rfl rfl (by repeat (first | exact evs_nil | apply evs_cons rfl)) rfl ?_); refine ⟨_, fun e w => cw w, ?_⟩))) | refine tri_seq ?_ | refine tri_block ?_ | refine tri_scope ?_ | refine tri_skip ?_ | refine tri_label ?_ | refine tri_ret ?_ | refine tri_exit ?_ | refine end_seq ?_ | refine end_block_exit ?_ | refine end_block_other rfl ?_ | refine end_block ?_ | refine end_block_ret ?_ | refine end_then_exit ?_ | refine end_then_ret ?_ | refine end_then ?_ | refine end_scope (fun _ h => by cases h) ?_ | refine tri_reg ?_ | refine tri_draw ?_ | refine walk1_end ?_ | (refine walk_endD ?_ ?_; (· kernel_rfl)) | refine tri_yes rfl (by first | omega | (simp <;> fail) | assumption) ?_ | refine tri_no rfl (by first | omega | (simp <;> fail) | assumption) ?_ | refine tri_true rfl (by first | with_reducible rfl | with_reducible exact Bool.not_false | with_reducible assumption) ?_ | refine tri_false rfl (by first | with_reducible rfl | with_reducible exact Bool.not_true | with_reducible assumption) ?_)
  refine end_ret _ (res_tmp rfl rfl) ?_
  exact fin_below fun _ => congrArg Value.bool (by simp)
end Go.Proofs.Ytlhedoodbadmgaa
