/- Whether a view may be, and what it costs, by the program and by the document: walked. No condition. -/
import Derived.Test.YtlhedoodbadmgaaRec3
namespace Go.Proofs.Ytlhedoodbadmgaa
open Go.RowKit
set_option maxRecDepth 100000
set_option maxHeartbeats 4000000
theorem eqSt_run (a b : StepS) (w : World) : (Op.equalIn 10000 23 (.agg a.c) (.agg b.c)).run Try.prog w = .ok (a.l == b.l) w := by
  have hu := Try.underlying23
  have hfo : Try.prog.underlying 23 = some (.struct (Try.prog.fieldsOf 23)) := by simp [Program.fieldsOf, hu]
  rw [run_equalIn_struct w 9999 23 _ _ hfo (by kernel_rfl), show a.c = intsC a.l from rfl, show b.c = intsC b.l from rfl]
  have := eqFields_ints (P := Try.prog) (w := w) 9998 a.l b.l (Try.prog.fieldsOf 23).toList 0 (fun i f hf => by
    simp only [Program.fieldsOf, hu] at hf
    match i, hf with
    | 0, hf => simp at hf; subst hf; exact ⟨by decide, rfl, Try.underlying3⟩
    | 1, hf => simp at hf; subst hf; exact ⟨by decide, rfl, Try.underlying3⟩
    | 2, hf => simp at hf; subst hf; exact ⟨by decide, rfl, Try.underlying3⟩
    | j + 3, hf => simp at hf) (by simp only [Program.fieldsOf, hu]; rfl) (by simp only [Program.fieldsOf, hu]; rfl)
  simpa using this
attribute [local irreducible] Calls Walk1 WalkTo Tri EndA
theorem trMay_any (v : ViewS) (w : World) : Calls Try.prog 14 #[.agg v.c] w fun e w' => e = .returned (.int .i64 (viewE v)) ∧ Below w.heap.size w w' := by
  have cl := fun w => lensCheck_any v.cam v.w v.h w
  unfold viewE
  generalize lensE v.cam v.w v.h = L at *
  have hvk : viewOk v ↔ (1 ≤ v.samples ∧ v.samples ≤ 16 ∧ 0 ≤ v.depth ∧ v.depth ≤ 8 ∧ 0 ≤ v.cls ∧ v.cls ≤ 2) := Iff.rfl
  generalize hV : (if viewOk v then (0 : Int) else 2) = V at *
  obtain ⟨vw, vh, sm, dp, cs, sd, ⟨⟨ex, ey, ez⟩, ⟨rx, ry, rz⟩, ⟨ux, uy, uz⟩, ⟨ax, ay, az⟩, ln, fo⟩, cn⟩ := v
  simp only [P3.c, CamS.c, ViewS.c] at *
  have hc : (L ≠ 0) ∨ (L = 0 ∧ sm < 1) ∨ (L = 0 ∧ ¬ (sm < 1) ∧ 16 < sm) ∨ (L = 0 ∧ ¬ (sm < 1) ∧ ¬ (16 < sm) ∧ dp < 0) ∨ (L = 0 ∧ ¬ (sm < 1) ∧ ¬ (16 < sm) ∧ ¬ (dp < 0) ∧ 8 < dp) ∨ (L = 0 ∧ ¬ (sm < 1) ∧ ¬ (16 < sm) ∧ ¬ (dp < 0) ∧ ¬ (8 < dp) ∧ cs < 0) ∨ (L = 0 ∧ ¬ (sm < 1) ∧ ¬ (16 < sm) ∧ ¬ (dp < 0) ∧ ¬ (8 < dp) ∧ ¬ (cs < 0) ∧ 2 < cs) ∨ (L = 0 ∧ ¬ (sm < 1) ∧ ¬ (16 < sm) ∧ ¬ (dp < 0) ∧ ¬ (8 < dp) ∧ ¬ (cs < 0) ∧ ¬ (2 < cs)) := by omega
  have hV2 : V = if (1 ≤ sm ∧ sm ≤ 16 ∧ 0 ≤ dp ∧ dp ≤ 8 ∧ 0 ≤ cs ∧ cs ≤ 2) then 0 else 2 := by
    rw [← hV]
    by_cases hv : (1 ≤ sm ∧ sm ≤ 16 ∧ 0 ≤ dp ∧ dp ≤ 8 ∧ 0 ≤ cs ∧ cs ≤ 2)
    · rw [if_pos hv, if_pos (hvk.2 hv)]
    · rw [if_neg hv, if_neg fun hh => hv (hvk.1 hh)]
  clear hV hvk
  rcases hc with hL | ⟨rfl, h1⟩ | ⟨rfl, h1, h2⟩ | ⟨rfl, h1, h2, h3⟩ | ⟨rfl, h1, h2, h3, h4⟩ | ⟨rfl, h1, h2, h3, h4, h5⟩ | ⟨rfl, h1, h2, h3, h4, h5, h6⟩ | ⟨rfl, h1, h2, h3, h4, h5, h6⟩
  all_goals
    refine calls_tri Try.func14 rfl Try.ntmps14 rfl ?_
    repeat (first | (show Walk1 _ _ _ (_ :: _) _ _; first | (show Walk1 _ _ _ (⟨_, _, _, _, _, some _⟩ :: _) _ _; first | refine walk1_yes rfl rfl (by first | exact decide_eq_true (by omega) | exact decide_eq_false (by omega) | rfl | (show _ = true; with_reducible assumption) | (show _ = false; with_reducible assumption) | (simp <;> fail) | omega) ?_ | refine walk1_no rfl rfl (by first | exact decide_eq_true (by omega) | exact decide_eq_false (by omega) | rfl | (show _ = true; with_reducible assumption) | (show _ = false; with_reducible assumption) | (simp <;> fail) | omega) rfl ?_) | (show Walk1 _ _ _ (⟨_, .move _, _, _, _, _⟩ :: _) _ _; first | refine walk1_t (op_move rfl rfl rfl rfl) ?_) | (show Walk1 _ _ _ (⟨_, .assign _, _, _, _, _⟩ :: _) _ _; first | refine walk1_t (op_assignN rfl rfl rfl rfl) ?_ | refine walk1_t (op_assign rfl rfl rfl rfl) ?_) | (show Walk1 _ _ _ (⟨_, .binOp .lss _ _ _ _, _, _, _, _⟩ :: _) _ _; first | refine walk1_t (op_ltI rfl rfl rfl rfl rfl) ?_) | (show Walk1 _ _ _ (⟨_, .binOp .gtr _ _ _ _, _, _, _, _⟩ :: _) _ _; first | refine walk1_t (op_gtI rfl rfl rfl rfl rfl) ?_) | (show Walk1 _ _ _ (⟨_, .binOp .neq _ _ _ _, _, _, _, _⟩ :: _) _ _; first | refine walk1_t (op_neN rfl rfl rfl (by first | exact evN_const rfl | exact rfl) (by first | exact evN_const rfl | exact rfl)) ?_ | refine walk1_t (op_neI rfl rfl rfl rfl rfl) ?_) | (show Walk1 _ _ _ (⟨_, .pick _ _ _, _, _, _, _⟩ :: _) _ _; first | refine walk1_t (op_pickY rfl rfl rfl rfl (by first | exact decide_eq_true (by omega) | exact decide_eq_false (by omega) | rfl | (show _ = true; with_reducible assumption) | (show _ = false; with_reducible assumption) | (simp <;> fail) | omega) rfl) ?_ | refine walk1_t (op_pickN rfl rfl rfl rfl (by first | exact decide_eq_true (by omega) | exact decide_eq_false (by omega) | rfl | (show _ = true; with_reducible assumption) | (show _ = false; with_reducible assumption) | (simp <;> fail) | omega) rfl) ?_) | (show Walk1 _ _ _ (⟨_, .load _ _, _, _, _, _⟩ :: _) _ _; first | refine walk1_t (op_load rfl rfl rfl rfl rfl rfl rfl) ?_ | refine walk1_t (op_loadsM rfl rfl rfl rfl rfl rfl rfl rfl) ?_) | (show Walk1 _ _ _ (⟨_, .box _ _, _, _, _, _⟩ :: _) _ _; first | refine walk1_n (op_box rfl rfl rfl rfl rfl) (by kernel_rfl) ?_) | (show Walk1 _ _ _ (⟨_, .fieldAddr _ _ _, _, _, _, _⟩ :: _) _ _; first | refine walk1_t (op_fldT rfl rfl rfl rfl rfl rfl off_zero) ?_) | (show Walk1 _ _ _ (⟨_, .call ⟨.value (.func 31), _, _⟩, _, _, _, _⟩ :: _) _ _; first | ((first | refine walk1_call rfl rfl rfl rfl (by repeat (first | exact evs_nil | apply evs_cons rfl)) rfl ?_ | refine walk1_call0 rfl rfl rfl (by repeat (first | exact evs_nil | apply evs_cons rfl)) rfl ?_); refine ⟨_, fun e w => cl w, ?_⟩))) | refine tri_seq ?_ | refine tri_block ?_ | refine tri_scope ?_ | refine tri_skip ?_ | refine tri_label ?_ | refine tri_ret ?_ | refine tri_exit ?_ | refine end_seq ?_ | refine end_block_exit ?_ | refine end_block_other rfl ?_ | refine end_block ?_ | refine end_block_ret ?_ | refine end_then_exit ?_ | refine end_then_ret ?_ | refine end_then ?_ | refine end_scope (fun _ h => by cases h) ?_ | refine tri_reg ?_ | refine tri_draw ?_ | refine walk1_end ?_ | (refine walk_endD ?_ ?_; (· kernel_rfl)) | refine tri_yes rfl (by first | omega | (simp <;> fail) | assumption) ?_ | refine tri_no rfl (by first | omega | (simp <;> fail) | assumption) ?_ | refine tri_true rfl (by first | with_reducible rfl | with_reducible exact Bool.not_false | with_reducible assumption) ?_ | refine tri_false rfl (by first | with_reducible rfl | with_reducible exact Bool.not_true | with_reducible assumption) ?_)
    refine end_ret _ (res_tmp rfl rfl) ?_
    exact fin_below fun _ => congrArg (Value.int .i64) (by first | (rw [if_pos hL]) | (rw [if_neg (by simp), hV2, if_neg (by omega)]; try rfl) | (rw [if_neg (by simp), hV2, if_pos (by omega)]; try rfl))
theorem refMay28_any (v : ViewS) (w : World) : Calls Try.prog 44 #[.agg v.c] w fun e w' => e = .returned (.int .i64 (viewE v)) ∧ Below w.heap.size w w' := by
  have cl := fun w => refLens_any v.cam v.w v.h w
  unfold viewE
  generalize lensE v.cam v.w v.h = L at *
  have hvk : viewOk v ↔ (1 ≤ v.samples ∧ v.samples ≤ 16 ∧ 0 ≤ v.depth ∧ v.depth ≤ 8 ∧ 0 ≤ v.cls ∧ v.cls ≤ 2) := Iff.rfl
  generalize hV : (if viewOk v then (0 : Int) else 2) = V at *
  obtain ⟨vw, vh, sm, dp, cs, sd, ⟨⟨ex, ey, ez⟩, ⟨rx, ry, rz⟩, ⟨ux, uy, uz⟩, ⟨ax, ay, az⟩, ln, fo⟩, cn⟩ := v
  simp only [P3.c, CamS.c, ViewS.c] at *
  have hc : (L ≠ 0) ∨ (L = 0 ∧ sm < 1) ∨ (L = 0 ∧ ¬ (sm < 1) ∧ 16 < sm) ∨ (L = 0 ∧ ¬ (sm < 1) ∧ ¬ (16 < sm) ∧ dp < 0) ∨ (L = 0 ∧ ¬ (sm < 1) ∧ ¬ (16 < sm) ∧ ¬ (dp < 0) ∧ 8 < dp) ∨ (L = 0 ∧ ¬ (sm < 1) ∧ ¬ (16 < sm) ∧ ¬ (dp < 0) ∧ ¬ (8 < dp) ∧ cs < 0) ∨ (L = 0 ∧ ¬ (sm < 1) ∧ ¬ (16 < sm) ∧ ¬ (dp < 0) ∧ ¬ (8 < dp) ∧ ¬ (cs < 0) ∧ 2 < cs) ∨ (L = 0 ∧ ¬ (sm < 1) ∧ ¬ (16 < sm) ∧ ¬ (dp < 0) ∧ ¬ (8 < dp) ∧ ¬ (cs < 0) ∧ ¬ (2 < cs)) := by omega
  have hV2 : V = if (1 ≤ sm ∧ sm ≤ 16 ∧ 0 ≤ dp ∧ dp ≤ 8 ∧ 0 ≤ cs ∧ cs ≤ 2) then 0 else 2 := by
    rw [← hV]
    by_cases hv : (1 ≤ sm ∧ sm ≤ 16 ∧ 0 ≤ dp ∧ dp ≤ 8 ∧ 0 ≤ cs ∧ cs ≤ 2)
    · rw [if_pos hv, if_pos (hvk.2 hv)]
    · rw [if_neg hv, if_neg fun hh => hv (hvk.1 hh)]
  clear hV hvk
  rcases hc with hL | ⟨rfl, h1⟩ | ⟨rfl, h1, h2⟩ | ⟨rfl, h1, h2, h3⟩ | ⟨rfl, h1, h2, h3, h4⟩ | ⟨rfl, h1, h2, h3, h4, h5⟩ | ⟨rfl, h1, h2, h3, h4, h5, h6⟩ | ⟨rfl, h1, h2, h3, h4, h5, h6⟩
  all_goals
    refine calls_tri Try.func44 rfl Try.ntmps44 rfl ?_
    repeat (first | (show Walk1 _ _ _ (_ :: _) _ _; first | (show Walk1 _ _ _ (⟨_, _, _, _, _, some _⟩ :: _) _ _; first | refine walk1_yes rfl rfl (by first | exact decide_eq_true (by omega) | exact decide_eq_false (by omega) | rfl | (show _ = true; with_reducible assumption) | (show _ = false; with_reducible assumption) | (simp <;> fail) | omega) ?_ | refine walk1_no rfl rfl (by first | exact decide_eq_true (by omega) | exact decide_eq_false (by omega) | rfl | (show _ = true; with_reducible assumption) | (show _ = false; with_reducible assumption) | (simp <;> fail) | omega) rfl ?_) | (show Walk1 _ _ _ (⟨_, .move _, _, _, _, _⟩ :: _) _ _; first | refine walk1_t (op_move rfl rfl rfl rfl) ?_) | (show Walk1 _ _ _ (⟨_, .assign _, _, _, _, _⟩ :: _) _ _; first | refine walk1_t (op_assignN rfl rfl rfl rfl) ?_ | refine walk1_t (op_assign rfl rfl rfl rfl) ?_) | (show Walk1 _ _ _ (⟨_, .binOp .lss _ _ _ _, _, _, _, _⟩ :: _) _ _; first | refine walk1_t (op_ltI rfl rfl rfl rfl rfl) ?_) | (show Walk1 _ _ _ (⟨_, .binOp .gtr _ _ _ _, _, _, _, _⟩ :: _) _ _; first | refine walk1_t (op_gtI rfl rfl rfl rfl rfl) ?_) | (show Walk1 _ _ _ (⟨_, .binOp .neq _ _ _ _, _, _, _, _⟩ :: _) _ _; first | refine walk1_t (op_neN rfl rfl rfl (by first | exact evN_const rfl | exact rfl) (by first | exact evN_const rfl | exact rfl)) ?_ | refine walk1_t (op_neI rfl rfl rfl rfl rfl) ?_) | (show Walk1 _ _ _ (⟨_, .pick _ _ _, _, _, _, _⟩ :: _) _ _; first | refine walk1_t (op_pickY rfl rfl rfl rfl (by first | exact decide_eq_true (by omega) | exact decide_eq_false (by omega) | rfl | (show _ = true; with_reducible assumption) | (show _ = false; with_reducible assumption) | (simp <;> fail) | omega) rfl) ?_ | refine walk1_t (op_pickN rfl rfl rfl rfl (by first | exact decide_eq_true (by omega) | exact decide_eq_false (by omega) | rfl | (show _ = true; with_reducible assumption) | (show _ = false; with_reducible assumption) | (simp <;> fail) | omega) rfl) ?_) | (show Walk1 _ _ _ (⟨_, .load _ _, _, _, _, _⟩ :: _) _ _; first | refine walk1_t (op_load rfl rfl rfl rfl rfl rfl rfl) ?_ | refine walk1_t (op_loadsM rfl rfl rfl rfl rfl rfl rfl rfl) ?_) | (show Walk1 _ _ _ (⟨_, .box _ _, _, _, _, _⟩ :: _) _ _; first | refine walk1_n (op_box rfl rfl rfl rfl rfl) (by kernel_rfl) ?_) | (show Walk1 _ _ _ (⟨_, .fieldAddr _ _ _, _, _, _, _⟩ :: _) _ _; first | refine walk1_t (op_fldT rfl rfl rfl rfl rfl rfl off_zero) ?_) | (show Walk1 _ _ _ (⟨_, .call ⟨.value (.func 70), _, _⟩, _, _, _, _⟩ :: _) _ _; first | ((first | refine walk1_call rfl rfl rfl rfl (by repeat (first | exact evs_nil | apply evs_cons rfl)) rfl ?_ | refine walk1_call0 rfl rfl rfl (by repeat (first | exact evs_nil | apply evs_cons rfl)) rfl ?_); refine ⟨_, fun e w => cl w, ?_⟩))) | refine tri_seq ?_ | refine tri_block ?_ | refine tri_scope ?_ | refine tri_skip ?_ | refine tri_label ?_ | refine tri_ret ?_ | refine tri_exit ?_ | refine end_seq ?_ | refine end_block_exit ?_ | refine end_block_other rfl ?_ | refine end_block ?_ | refine end_block_ret ?_ | refine end_then_exit ?_ | refine end_then_ret ?_ | refine end_then ?_ | refine end_scope (fun _ h => by cases h) ?_ | refine tri_reg ?_ | refine tri_draw ?_ | refine walk1_end ?_ | (refine walk_endD ?_ ?_; (· kernel_rfl)) | refine tri_yes rfl (by first | omega | (simp <;> fail) | assumption) ?_ | refine tri_no rfl (by first | omega | (simp <;> fail) | assumption) ?_ | refine tri_true rfl (by first | with_reducible rfl | with_reducible exact Bool.not_false | with_reducible assumption) ?_ | refine tri_false rfl (by first | with_reducible rfl | with_reducible exact Bool.not_true | with_reducible assumption) ?_)
    refine end_ret _ (res_tmp rfl rfl) ?_
    exact fin_below fun _ => congrArg (Value.int .i64) (by first | (rw [if_pos hL]) | (rw [if_neg (by simp), hV2, if_neg (by omega)]; try rfl) | (rw [if_neg (by simp), hV2, if_pos (by omega)]; try rfl))
end Go.Proofs.Ytlhedoodbadmgaa
