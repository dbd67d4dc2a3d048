/- Whether a direction or a camera may be, by the program and by the document: walked. No condition. -/
import Derived.Test.YtlhedoodbadmgaaRec1
namespace Go.Proofs.Ytlhedoodbadmgaa
open Go.RowKit
set_option maxRecDepth 100000
set_option maxHeartbeats 1000000
attribute [local irreducible] Calls Walk1 WalkTo Tri EndA
theorem octaMay_any (p : P3) (w : World) : Calls Try.prog 61 #[.agg p.c] w fun e w' => e = .returned (.bool (dirP p)) ∧ Below w.heap.size w w' := by
  have hr := fun w => eqPt_run p ⟨0, 0, 0⟩ w
  rw [show (⟨0, 0, 0⟩ : P3).c = #[.int .i64 0, .int .i64 0, .int .i64 0] from rfl, show (⟨0, 0, 0⟩ : P3).l = [0, 0, 0] from rfl] at hr
  unfold dirP inP
  generalize (p.l == [0, 0, 0]) = E at *
  obtain ⟨x, y, z⟩ := p
  simp only [P3.c] at *
  generalize hM : max3 x y z = M at *
  generalize hN : min3 x y z = N at *
  by_cases h1 : M ≤ 16384
  all_goals
    cases E
    all_goals
      subst hM hN
      refine calls_tri Try.func61 rfl Try.ntmps61 rfl ?_
      repeat (first | (show Walk1 _ _ _ (_ :: _) _ _; first | (show Walk1 _ _ _ (⟨_, _, _, _, _, some _⟩ :: _) _ _; first | refine walk1_yes rfl rfl (by first | exact decide_eq_true (by omega) | exact decide_eq_false (by omega) | rfl | (show _ = true; with_reducible assumption) | (show _ = false; with_reducible assumption) | (simp <;> fail) | omega) ?_ | refine walk1_no rfl rfl (by first | exact decide_eq_true (by omega) | exact decide_eq_false (by omega) | rfl | (show _ = true; with_reducible assumption) | (show _ = false; with_reducible assumption) | (simp <;> fail) | omega) rfl ?_) | (show Walk1 _ _ _ (⟨_, .move _, _, _, _, _⟩ :: _) _ _; refine walk1_t (op_move rfl rfl rfl rfl) ?_) | (show Walk1 _ _ _ (⟨_, .assign _, _, _, _, _⟩ :: _) _ _; refine walk1_t (op_assign rfl rfl rfl rfl) ?_) | (show Walk1 _ _ _ (⟨_, .binOp .leq _ _ _ _, _, _, _, _⟩ :: _) _ _; refine walk1_t (op_leI rfl rfl rfl rfl rfl) ?_) | (show Walk1 _ _ _ (⟨_, .binOp .geq _ _ _ _, _, _, _, _⟩ :: _) _ _; refine walk1_t (op_geI rfl rfl rfl rfl rfl) ?_) | (show Walk1 _ _ _ (⟨_, .binOp .neq _ _ _ _, _, _, _, _⟩ :: _) _ _; refine walk1_t (op_neR (by assumption) rfl rfl rfl rfl rfl (fun _ => rfl) (fun _ => rfl) (by kernel_rfl)) ?_) | (show Walk1 _ _ _ (⟨_, .pick _ _ _, _, _, _, _⟩ :: _) _ _; first | refine walk1_t (op_pickY rfl rfl rfl rfl (by first | exact decide_eq_true (by omega) | exact decide_eq_false (by omega) | rfl | (show _ = true; with_reducible assumption) | (show _ = false; with_reducible assumption) | (simp <;> fail) | omega) rfl) ?_ | refine walk1_t (op_pickN rfl rfl rfl rfl (by first | exact decide_eq_true (by omega) | exact decide_eq_false (by omega) | rfl | (show _ = true; with_reducible assumption) | (show _ = false; with_reducible assumption) | (simp <;> fail) | omega) rfl) ?_) | (show Walk1 _ _ _ (⟨_, .load _ _, _, _, _, _⟩ :: _) _ _; first | refine walk1_t (op_load rfl rfl rfl rfl rfl rfl rfl) ?_ | refine walk1_t (op_loads rfl rfl rfl rfl rfl rfl rfl rfl) ?_) | (show Walk1 _ _ _ (⟨_, .box _ _, _, _, _, _⟩ :: _) _ _; refine walk1_n (op_box rfl rfl rfl rfl rfl) (by kernel_rfl) ?_) | (show Walk1 _ _ _ (⟨_, .fieldAddr _ _ _, _, _, _, _⟩ :: _) _ _; refine walk1_t (op_fldT rfl rfl rfl rfl rfl rfl off_zero) ?_) | (show Walk1 _ _ _ (⟨_, .build _ _, _, _, _, _⟩ :: _) _ _; refine walk1_t (op_build0 rfl rfl rfl rfl rfl rfl) ?_) | (show Walk1 _ _ _ (⟨_, .call ⟨.builtin .min, _, _⟩, _, _, _, _⟩ :: _) _ _; refine walk1_t (op_min3I rfl rfl rfl rfl) ?_) | (show Walk1 _ _ _ (⟨_, .call ⟨.builtin .max, _, _⟩, _, _, _, _⟩ :: _) _ _; refine walk1_t (op_max3I rfl rfl rfl rfl) ?_)) | refine go1 ?_ | refine end_block_other rfl ?_ | refine end_scope (fun _ h => by cases h) ?_ | (refine walk_endD ?_ ?_; (· kernel_rfl)) | refine tri_yesA rfl ?_ | refine tri_noA rfl ?_ | refine tri_trueA rfl ?_ | refine tri_falseA rfl ?_)
      refine end_ret _ (res_tmp rfl rfl) ?_
      exact fin_below fun _ => congrArg Value.bool (by simp [h1])
theorem between_any (n lo hi : Int) (w : World) : Calls Try.prog 60 #[.int .i64 n, .int .i64 lo, .int .i64 hi] w fun e w' => e = .returned (.bool (decide (lo ≤ n) && decide (n ≤ hi))) ∧ Below w.heap.size w w' := by
  by_cases h : lo ≤ n
  · refine calls_tri Try.func60 rfl Try.ntmps60 rfl ?_
    repeat (first | (show Walk1 _ _ _ (_ :: _) _ _; first | (show Walk1 _ _ _ (⟨_, _, _, _, _, some _⟩ :: _) _ _; refine walk1_yes rfl rfl (by first | exact decide_eq_true (by omega) | exact decide_eq_false (by omega) | rfl | (show _ = true; with_reducible assumption) | (show _ = false; with_reducible assumption) | (simp <;> fail) | omega) ?_) | (show Walk1 _ _ _ (⟨_, .move _, _, _, _, _⟩ :: _) _ _; refine walk1_t (op_move rfl rfl rfl rfl) ?_) | (show Walk1 _ _ _ (⟨_, .assign _, _, _, _, _⟩ :: _) _ _; refine walk1_t (op_assign rfl rfl rfl rfl) ?_) | (show Walk1 _ _ _ (⟨_, .binOp .leq _ _ _ _, _, _, _, _⟩ :: _) _ _; refine walk1_t (op_leI rfl rfl rfl rfl rfl) ?_) | (show Walk1 _ _ _ (⟨_, .binOp .geq _ _ _ _, _, _, _, _⟩ :: _) _ _; refine walk1_t (op_geI rfl rfl rfl rfl rfl) ?_) | (show Walk1 _ _ _ (⟨_, .pick _ _ _, _, _, _, _⟩ :: _) _ _; refine walk1_t (op_pickY rfl rfl rfl rfl (by first | exact decide_eq_true (by omega) | exact decide_eq_false (by omega) | rfl | (show _ = true; with_reducible assumption) | (show _ = false; with_reducible assumption) | (simp <;> fail) | omega) rfl) ?_)) | refine go1 ?_ | refine end_block_other rfl ?_ | refine end_scope (fun _ h => by cases h) ?_ | (refine walk_endD ?_ ?_; (· kernel_rfl)) | refine tri_yesA rfl ?_ | refine tri_noA rfl ?_ | refine tri_trueA rfl ?_ | refine tri_falseA rfl ?_)
    refine end_ret _ (res_tmp rfl rfl) ?_
    exact fin_below fun _ => congrArg Value.bool (by simp [h])
  · refine calls_tri Try.func60 rfl Try.ntmps60 rfl ?_
    repeat (first | (show Walk1 _ _ _ (_ :: _) _ _; first | (show Walk1 _ _ _ (⟨_, _, _, _, _, some _⟩ :: _) _ _; refine walk1_no rfl rfl (by first | exact decide_eq_true (by omega) | exact decide_eq_false (by omega) | rfl | (show _ = true; with_reducible assumption) | (show _ = false; with_reducible assumption) | (simp <;> fail) | omega) rfl ?_) | (show Walk1 _ _ _ (⟨_, .move _, _, _, _, _⟩ :: _) _ _; refine walk1_t (op_move rfl rfl rfl rfl) ?_) | (show Walk1 _ _ _ (⟨_, .assign _, _, _, _, _⟩ :: _) _ _; refine walk1_t (op_assign rfl rfl rfl rfl) ?_) | (show Walk1 _ _ _ (⟨_, .binOp .geq _ _ _ _, _, _, _, _⟩ :: _) _ _; refine walk1_t (op_geI rfl rfl rfl rfl rfl) ?_) | (show Walk1 _ _ _ (⟨_, .pick _ _ _, _, _, _, _⟩ :: _) _ _; refine walk1_t (op_pickN rfl rfl rfl rfl (by first | exact decide_eq_true (by omega) | exact decide_eq_false (by omega) | rfl | (show _ = true; with_reducible assumption) | (show _ = false; with_reducible assumption) | (simp <;> fail) | omega) rfl) ?_)) | refine go1 ?_ | refine end_block_other rfl ?_ | refine end_scope (fun _ h => by cases h) ?_ | (refine walk_endD ?_ ?_; (· kernel_rfl)) | refine tri_yesA rfl ?_ | refine tri_noA rfl ?_ | refine tri_trueA rfl ?_ | refine tri_falseA rfl ?_)
    refine end_ret _ (res_tmp rfl rfl) ?_
    exact fin_below fun _ => congrArg Value.bool (by simp [h])
end Go.Proofs.Ytlhedoodbadmgaa
