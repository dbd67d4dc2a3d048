/- The example of chapter 31; records that are not longer than the law's own looks go: walked. No condition. -/
import Derived.Test.YtihbiejgebmeaaaRecZCD
namespace Go.Proofs.Ytihbiejgebmeaaa
open Go.RowKit
set_option maxRecDepth 100000
set_option maxHeartbeats 400000
attribute [local irreducible] Calls Walk1 WalkTo Tri EndA
theorem works31_any (w : World) : Calls Try.prog 9 #[] w fun e w' => e = .returned (.bool true) ∧ Below w.heap.size w w' := by
  have cp := fun w => plain_any w
  have cm := fun w => make0_any w
  have l1 := shaL_length (zE 9)
  have l2 := shaL_length []
  generalize shaL (zE 9) = S1 at *
  generalize shaL [] = S2 at *
  have hok : (rec0 S1 S2).ok := ⟨l1, l2⟩
  have hF := recF (rec0 S1 S2) hok (.slice none 0 0)
  have hfs : ∀ w, FS w 1 (.slice none 0 0) 0 (valsL .u64 ([] : List (BitVec 64))) := fun w => ⟨⟨rfl, none, 0, rfl, .inl rfl⟩, none, 0, rfl, Nat.le_refl _⟩
  have ce := fun w => encode_any (rec0 S1 S2) hok [] (Nat.zero_le _) (.slice none 0 0) (recA (rec0 S1 S2) (.slice none 0 0)) hF w (hfs w)
  have hL : (encL (rec0 S1 S2) []).length = 173 := by
    rw [encL, if_pos (rec0_may S1 S2), encB_length _ hok]
    rfl
  rw [rec0_may] at ce
  have hRs := hF.size
  have hRo := rec0_one S1 S2
  clear hF hfs
  generalize recA (rec0 S1 S2) (.slice none 0 0) = R at *
  generalize encL (rec0 S1 S2) [] = EL at *
  clear hok l1 l2
  unfold scene0 at cm
  have hzs : zS.c = #[.int .i64 0, .int .i64 0, .int .i64 0] := rfl
  rw [hzs] at cm
  have hps : plainV.c.size = 21 := rfl
  generalize plainV.c = PV at *
  refine calls_tri Try.func9 rfl Try.ntmps9 rfl ?_
  repeat (first | (show Walk1 _ _ _ (_ :: _) _ _; first | (show Walk1 _ _ _ (⟨_, _, _, _, _, some _⟩ :: _) _ _; refine walk1_yes rfl rfl (by first | exact decide_eq_true (by omega) | exact decide_eq_false (by omega) | rfl | (show _ = true; with_reducible assumption) | (show _ = false; with_reducible assumption) | (simp <;> fail) | omega) ?_) | (show Walk1 _ _ _ (⟨_, .move _, _, _, _, _⟩ :: _) _ _; refine walk1_t (op_move rfl rfl rfl rfl) ?_) | (show Walk1 _ _ _ (⟨_, .assign _, _, _, _, _⟩ :: _) _ _; refine walk1_t (op_assign rfl rfl rfl rfl) ?_) | (show Walk1 _ _ _ (⟨_, .binOp .eql _ _ _ _, _, _, _, _⟩ :: _) _ _; refine walk1_t (op_eqN rfl rfl rfl (by first | exact evN_const rfl | exact rfl) (by first | exact evN_const rfl | exact rfl)) ?_) | (show Walk1 _ _ _ (⟨_, .pick _ _ _, _, _, _, _⟩ :: _) _ _; refine walk1_t (op_pickY rfl rfl rfl rfl (by first | exact decide_eq_true (by omega) | exact decide_eq_false (by omega) | rfl | (show _ = true; with_reducible assumption) | (show _ = false; with_reducible assumption) | (simp <;> fail) | omega) rfl) ?_) | (show Walk1 _ _ _ (⟨_, .load _ _, _, _, _, _⟩ :: _) _ _; refine walk1_t (op_loadsC rfl rfl rfl rfl rfl rfl rfl rfl (sm_c (by assumption)) ag_c) ?_) | (show Walk1 _ _ _ (⟨_, .store _ _ _, _, _, _, _⟩ :: _) _ _; refine walk1_b (op_storesC rfl rfl rfl rfl rfl rfl rfl (by with_reducible assumption) (by with_reducible assumption)) ?_) | (show Walk1 _ _ _ (⟨_, .alloc _, _, _, _, _⟩ :: _) _ _; refine walk1_n (op_alloc rfl rfl rfl rfl rfl) (by kernel_rfl) ?_) | (show Walk1 _ _ _ (⟨_, .extract _ _, _, _, _, _⟩ :: _) _ _; first | refine walk1_t (op_ext0 rfl rfl rfl rfl) ?_ | refine walk1_t (op_ext1 rfl rfl rfl rfl) ?_ | refine walk1_t (op_extract rfl rfl rfl rfl rfl) ?_) | (show Walk1 _ _ _ (⟨_, .build _ _, _, _, _, _⟩ :: _) _ _; refine walk1_t (op_build0 rfl rfl rfl rfl rfl rfl) ?_) | (show Walk1 _ _ _ (⟨_, .call ⟨.builtin .len, _, _⟩, _, _, _, _⟩ :: _) _ _; refine walk1_t (op_lenV rfl rfl rfl rfl) ?_) | (show Walk1 _ _ _ (⟨_, .call ⟨.value (.func 19), _, _⟩, _, _, _, _⟩ :: _) _ _; ((first | refine walk1_call rfl rfl rfl rfl (by repeat (first | exact evs_nil | apply evs_cons rfl)) rfl ?_ | refine walk1_call0 rfl rfl rfl (by repeat (first | exact evs_nil | apply evs_cons rfl)) rfl ?_); refine ⟨_, fun e w => cp w, ?_⟩)) | (show Walk1 _ _ _ (⟨_, .call ⟨.value (.func 6), _, _⟩, _, _, _, _⟩ :: _) _ _; ((first | refine walk1_call rfl rfl rfl rfl (by repeat (first | exact evs_nil | apply evs_cons rfl)) rfl ?_ | refine walk1_call0 rfl rfl rfl (by repeat (first | exact evs_nil | apply evs_cons rfl)) rfl ?_); refine ⟨_, fun e w => cm w, ?_⟩)) | (show Walk1 _ _ _ (⟨_, .call ⟨.value (.func 20), _, _⟩, _, _, _, _⟩ :: _) _ _; (refine walk1_callOT rfl rfl rfl rfl (by kernel_rfl) (by repeat (first | exact evs_nil | apply evs_cons rfl)) rfl ?_; refine ⟨_, _, _, _, _, _, callOT_0 (fun e w => ce w), ?_⟩))) | refine go1 ?_ | refine end_block_other rfl ?_ | refine end_scope (fun _ h => by cases h) ?_ | (refine walk_endD ?_ ?_; (· kernel_rfl)) | refine tri_yesA rfl ?_ | refine tri_noA rfl ?_ | refine tri_trueA rfl ?_ | refine tri_falseA rfl ?_)
  refine end_ret _ (res_tmp rfl rfl) ?_
  exact fin_below fun _ => congrArg Value.bool (by simp [hL])
end Go.Proofs.Ytihbiejgebmeaaa
