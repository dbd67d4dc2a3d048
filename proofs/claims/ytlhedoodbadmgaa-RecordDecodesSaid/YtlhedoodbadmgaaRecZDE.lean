/- The example's record made: walked. No condition. The example of chapter 31; records that are not longer than the law's own looks go: walked. No condition. -/
import Derived.Test.YtlhedoodbadmgaaRecZ3
namespace Go.Proofs.Ytlhedoodbadmgaa
open Go.RowKit
set_option maxRecDepth 100000
set_option maxHeartbeats 400000
def Z32 : List (BitVec 8) := List.replicate 32 0#8
def rec0 (s p : List (BitVec 8)) : RecS := ⟨1, plainV, zS, 0#32, 0#32, 0#32, s, p⟩
def H29 : Array Value := #[.int .i64 1, .int .i64 1, .int .i64 1, .int .i64 1, .int .i64 0, .int .i64 0, .int .u64 (bvi 0#64), .int .i64 0, .int .i64 0, .int .i64 0, .int .i64 16384, .int .i64 0, .int .i64 0, .int .i64 0, .int .i64 16384, .int .i64 0, .int .i64 0, .int .i64 0, .int .i64 16384, .int .i64 0, .int .i64 1, .bool false, .int .i64 0, .int .i64 0, .int .i64 0, .slice none 0 0, .int .u32 (bvi 0#32), .int .u32 (bvi 0#32), .int .u32 (bvi 0#32)]
theorem H29_eq : #[Value.int .i64 1] ++ plainV.c ++ zS.c ++ #[.slice none 0 0, .int .u32 (bvi 0#32), .int .u32 (bvi 0#32), .int .u32 (bvi 0#32)] = H29 := by kernel_rfl
theorem cells_parts (P4 P5 : Array Value) : #[Value.int .i64 1] ++ plainV.c ++ zS.c ++ #[.slice none 0 0, .int .u32 (bvi 0#32), .int .u32 (bvi 0#32), .int .u32 (bvi 0#32)] ++ P4 ++ P5 = H29 ++ (P4 ++ P5) := by rw [H29_eq, Array.append_assoc]
theorem rec0_cells (s p : List (BitVec 8)) : recA (rec0 s p) (.slice none 0 0) = H29 ++ (vals .u8 s ++ vals .u8 p) := cells_parts _ _
theorem vals_one8 (l : List (BitVec 8)) : (vals .u8 l).all (·.oneCell') = true := by
  simp [vals, valsL]
  intro x _
  rfl
theorem H29_one : H29.all (·.oneCell') = true := by kernel_rfl
theorem rec0_one (s p : List (BitVec 8)) : (recA (rec0 s p) (.slice none 0 0)).all (·.oneCell') = true := by
  rw [rec0_cells, Array.all_append, Array.all_append, H29_one, vals_one8, vals_one8]
  rfl
theorem rec0_may (s p : List (BitVec 8)) : recE (rec0 s p) = 0 := by kernel_rfl
theorem Z32_ok : (rec0 Z32 Z32).ok := ⟨List.length_replicate, List.length_replicate⟩
theorem check0_any (w : World) : Calls Try.prog 20 #[.agg (recA (rec0 Z32 Z32) (.slice none 0 0))] w fun e w' => e = .returned (.int .i64 0) ∧ Below w.heap.size w w' := by
  have := recCheck_any (rec0 Z32 Z32) (.slice none 0 0) (recA (rec0 Z32 Z32) (.slice none 0 0)) 0 ⟨none, 0, rfl⟩ (Nat.zero_le _) (recF (rec0 Z32 Z32) Z32_ok (.slice none 0 0)) w
  rw [rec0_may] at this
  exact this
attribute [local irreducible] Calls Walk1 WalkTo Tri EndA
theorem make0_any (w : World) : Calls Try.prog 9 #[.int .i64 1, .agg plainV.c, .agg scene0, .agg zS.c, .slice none 0 0] w fun e w' => e = .returned (.tuple #[.agg (recA (rec0 (shaL (zE 9)) (shaL [])) (.slice none 0 0)), .int .i64 0]) ∧ Below w.heap.size w w' := by
  have cl := fun w => cloneNil64_any w
  have cc := fun w => check0_any w
  have ce := fun w => projEnc0_any w
  have s1 := fun v w h => shaSum_any v [zE 9] w h (by simp [zE_length]) (by simp)
  have s2 := fun v w h => shaSum_any v [[]] w h (by simp) (by simp)
  have f1 : [zE 9].flatten = zE 9 := by simp
  have f2 : ([[]] : List (List (BitVec 8))).flatten = [] := rfl
  rw [f1] at s1
  rw [f2] at s2
  have l1 := shaL_length (zE 9)
  have l2 := shaL_length []
  have hR := rec0_cells (shaL (zE 9)) (shaL [])
  have hRs : (recA (rec0 (shaL (zE 9)) (shaL [])) (.slice none 0 0)).size = 93 := (recF (rec0 (shaL (zE 9)) (shaL [])) ⟨l1, l2⟩ (.slice none 0 0)).size
  have hRo := rec0_one (shaL (zE 9)) (shaL [])
  generalize recA (rec0 (shaL (zE 9)) (shaL [])) (.slice none 0 0) = R at *
  generalize shaL (zE 9) = S1 at *
  generalize shaL [] = S2 at *
  have hA0 : (recA (rec0 Z32 Z32) (.slice none 0 0)).size = 93 := by kernel_rfl
  have hA1 : (recA (rec0 Z32 Z32) (.slice none 0 0)).all (·.oneCell') = true := by kernel_rfl
  generalize hE : zE 9 = E at *
  have hps : plainV.c.size = 21 := rfl
  have hpo : plainV.c.all (·.oneCell') = true := by kernel_rfl
  have hzs : zS.c.size = 3 := rfl
  clear f1 f2
  refine calls_tri Try.func9 rfl Try.ntmps9 rfl ?_
  iterate 23 (try (first | (show Walk1 _ _ _ (_ :: _) _ _; first | (show Walk1 _ _ _ (⟨_, .assign _, _, _, _, _⟩ :: _) _ _; refine walk1_t (op_assignN rfl rfl rfl rfl) ?_) | (show Walk1 _ _ _ (⟨_, .alloc _, _, _, _, _⟩ :: _) _ _; refine walk1_n (op_alloc rfl rfl rfl rfl rfl) (by kernel_rfl) ?_) | (show Walk1 _ _ _ (⟨_, .box _ _, _, _, _, _⟩ :: _) _ _; refine walk1_n (op_box rfl rfl rfl rfl rfl) (by kernel_rfl) ?_)) | (show WalkTo _ _ _ _ (_ :: _) _ _ _; first | (show WalkTo _ _ _ _ (⟨_, .move _, _, _, _, _⟩ :: _) _ _ _; refine walk_t (op_move rfl rfl rfl rfl) ?_) | (show WalkTo _ _ _ _ (⟨_, .load _ _, _, _, _, _⟩ :: _) _ _ _; first | refine walk_t (op_load rfl rfl rfl rfl rfl rfl rfl) ?_ | refine walk_t (op_loads rfl rfl rfl rfl rfl rfl rfl rfl) ?_) | (show WalkTo _ _ _ _ (⟨_, .fieldAddr _ _ _, _, _, _, _⟩ :: _) _ _ _; refine walk_t (op_fldT rfl rfl rfl rfl rfl rfl off_zero) ?_) | (show WalkTo _ _ _ _ (⟨_, .call ⟨.value (.func 26), _, _⟩, _, _, _, _⟩ :: _) _ _ _; ((first | refine walk_call rfl rfl rfl rfl (by repeat (first | exact evs_nil | apply evs_cons rfl)) rfl ?_ | refine walk_call0 rfl rfl rfl (by repeat (first | exact evs_nil | apply evs_cons rfl)) rfl ?_); refine ⟨_, fun e w => cl w, ?_⟩))) | refine go1 ?_ | refine end_block_other rfl ?_ | refine end_scope (fun _ h => by cases h) ?_ | (refine walk_endD ?_ ?_; (· kernel_rfl)) | refine tri_yesA rfl ?_ | refine tri_noA rfl ?_ | refine tri_trueA rfl ?_ | refine tri_falseA rfl ?_))
  refine walk_t (op_buildK (parts := [(0, .tmp 14), (1, .tmp 15), (2, .tmp 16), (3, .tmp 19), (4, .tmp 21), (5, .tmp 23), (6, .tmp 25)]) (vs := [.int .i64 1, .agg plainV.c, .agg zS.c, .slice none 0 0, .int .u32 (bvi 0#32), .int .u32 (bvi 0#32), .int .u32 (bvi 0#32)]) (recA (rec0 Z32 Z32) (.slice none 0 0)) rfl rfl rfl rfl rfl rfl (by kernel_rfl) (by kernel_rfl)) ?_
  have hAe := rec0_cells Z32 Z32
  generalize recA (rec0 Z32 Z32) (.slice none 0 0) = A0 at *
  iterate 22 (try (first | (show Walk1 _ _ _ (_ :: _) _ _; first | (show Walk1 _ _ _ (⟨_, .move _, _, _, _, _⟩ :: _) _ _; refine walk1_t (op_move rfl rfl rfl rfl) ?_) | (show Walk1 _ _ _ (⟨_, .assign _, _, _, _, _⟩ :: _) _ _; refine walk1_t (op_assign rfl rfl rfl rfl) ?_) | (show Walk1 _ _ _ (⟨_, .binOp .neq _ _ _ _, _, _, _, _⟩ :: _) _ _; refine walk1_t (op_neN rfl rfl rfl (by first | exact evN_const rfl | exact rfl) (by first | exact evN_const rfl | exact rfl)) ?_) | (show Walk1 _ _ _ (⟨_, .load _ _, _, _, _, _⟩ :: _) _ _; refine walk1_t (op_loadsC rfl rfl rfl rfl rfl rfl rfl rfl (sm_c (by assumption)) ag_c) ?_) | (show Walk1 _ _ _ (⟨_, .call ⟨.value (.func 20), _, _⟩, _, _, _, _⟩ :: _) _ _; ((first | refine walk1_call rfl rfl rfl rfl (by repeat (first | exact evs_nil | apply evs_cons rfl)) rfl ?_ | refine walk1_call0 rfl rfl rfl (by repeat (first | exact evs_nil | apply evs_cons rfl)) rfl ?_); refine ⟨_, fun e w => cc w, ?_⟩))) | (show WalkTo _ _ _ _ (_ :: _) _ _ _; first | (show WalkTo _ _ _ _ (⟨_, .store _ _ _, _, _, _, _⟩ :: _) _ _ _; refine walk_b (op_storesC rfl rfl rfl rfl rfl rfl rfl (by with_reducible assumption) (by with_reducible assumption)) ?_) | (show WalkTo _ _ _ _ (⟨_, .alloc _, _, _, _, _⟩ :: _) _ _ _; refine walk_n (op_alloc rfl rfl rfl rfl rfl) (by kernel_rfl) ?_)) | refine go1 ?_ | refine end_block_other rfl ?_ | refine end_scope (fun _ h => by cases h) ?_ | (refine walk_endD ?_ ?_; (· kernel_rfl)) | refine tri_yesA rfl ?_ | refine tri_noA rfl ?_ | refine tri_trueA rfl ?_ | refine tri_falseA rfl ?_))
  refine tri_ent (ent_blkA 12 ((SA.c H29).app ((SA.c (vals .u8 Z32)).app (SA.c (vals .u8 Z32)))) rfl (fun _ => hAe)) ?_
  have hzl : Z32.length = 32 := List.length_replicate
  generalize Z32 = ZZ at *
  generalize plainV.c = PV at *
  generalize zS.c = ZS at *
  clear hAe cc cl
  iterate 14 (try (first | (show Walk1 _ _ _ (_ :: _) _ _; first | (show Walk1 _ _ _ (⟨_, .move _, _, _, _, _⟩ :: _) _ _; refine walk1_t (op_move rfl rfl rfl rfl) ?_) | (show Walk1 _ _ _ (⟨_, .load _ _, _, _, _, _⟩ :: _) _ _; refine walk1_t (op_loads rfl rfl rfl rfl rfl rfl rfl rfl) ?_) | (show Walk1 _ _ _ (⟨_, .store _ _ _, _, _, _, _⟩ :: _) _ _; refine walk1_b (op_storesM rfl rfl rfl rfl rfl rfl rfl) ?_) | (show Walk1 _ _ _ (⟨_, .fieldAddr _ _ _, _, _, _, _⟩ :: _) _ _; refine walk1_t (op_fldT rfl rfl rfl rfl rfl rfl off_zero) ?_) | (show Walk1 _ _ _ (⟨_, .buildSlice _ _ _, _, _, _, _⟩ :: _) _ _; first | refine walk1_n (op_bsliceV rfl rfl rfl rfl rfl rfl rfl rfl rfl rfl rfl rfl) (by kernel_rfl) ?_ | refine walk1_n (op_bslice1 rfl rfl rfl rfl rfl rfl rfl rfl rfl rfl rfl (ce_one fun _ => rfl) (sm_l rfl) (by kernel_rfl)) (by kernel_rfl) ?_) | (show Walk1 _ _ _ (⟨_, .call ⟨.value (.func 16), _, _⟩, _, _, _, _⟩ :: _) _ _; (refine walk1_callO rfl rfl rfl rfl (by kernel_rfl) (by repeat (first | exact evs_nil | apply evs_cons rfl)) rfl ?_; refine ⟨_, _, _, _, _, callO_0  (fun e w  => ce w), ?_⟩)) | (show Walk1 _ _ _ (⟨_, .call ⟨.value (.func 15), _, _⟩, _, _, _, _⟩ :: _) _ _; (refine walk1_callM rfl rfl rfl rfl (by repeat (first | exact evs_nil | apply evs_cons rfl)) rfl ?_; refine ⟨_, _, callM_s (by first | exact slcq_old (by first | assumption | exact slcx_of (by assumption)) | exact slcq_row rfl (by first | rfl | omega) (by assumption) | exact slcq_list rfl (by repeat (first | exact fsqs_nil | apply fsqs_cons (by first | exact fsq_own rfl | exact fsq_osub rfl | exact fsq_subU rfl (by omega) rfl | exact fsq_ones rfl rfl (by omega) | exact fsq_one rfl (by omega) | exact fsq_lit rfl (by repeat (first | exact litl_nil | apply litl_bv | refine litl_z rfl ?_)) rfl (by omega) | exact fsq_whole rfl (by first | (with_reducible assumption) | rfl | (simp <;> fail) | omega) (by omega) | exact fsq_old (by first | assumption | exact fsx_of (by assumption) (by omega) | exact FSX.cutB (by assumption) (by omega) | exact fsx_of (FS.cutB (by assumption) (by omega)) (by omega)) | exact fsq_nil))) rfl) (fun e w h1 => s1 _ w h1), ?_⟩)) | (show Walk1 _ _ _ (⟨_, .call ⟨.value (.func 15), _, _⟩, _, _, _, _⟩ :: _) _ _; (refine walk1_callM rfl rfl rfl rfl (by repeat (first | exact evs_nil | apply evs_cons rfl)) rfl ?_; refine ⟨_, _, callM_s (by first | exact slcq_old (by first | assumption | exact slcx_of (by assumption)) | exact slcq_row rfl (by first | rfl | omega) (by assumption) | exact slcq_list rfl (by repeat (first | exact fsqs_nil | apply fsqs_cons (by first | exact fsq_own rfl | exact fsq_osub rfl | exact fsq_subU rfl (by omega) rfl | exact fsq_ones rfl rfl (by omega) | exact fsq_one rfl (by omega) | exact fsq_lit rfl (by repeat (first | exact litl_nil | apply litl_bv | refine litl_z rfl ?_)) rfl (by omega) | exact fsq_whole rfl (by first | (with_reducible assumption) | rfl | (simp <;> fail) | omega) (by omega) | exact fsq_old (by first | assumption | exact fsx_of (by assumption) (by omega) | exact FSX.cutB (by assumption) (by omega) | exact fsx_of (FS.cutB (by assumption) (by omega)) (by omega)) | exact fsq_nil))) rfl) (fun e w h1 => s2 _ w h1), ?_⟩))) | refine go1 ?_ | refine end_block_other rfl ?_ | refine end_scope (fun _ h => by cases h) ?_ | (refine walk_endD ?_ ?_; (· kernel_rfl)) | refine tri_yesA rfl ?_ | refine tri_noA rfl ?_ | refine tri_trueA rfl ?_ | refine tri_falseA rfl ?_))
  refine tri_ent (ent_blkA 12 (.c R) rfl (fun _ => hR.symm)) ?_
  clear hR hA0 hA1 s1 s2 ce
  repeat (first | (show Walk1 _ _ _ (_ :: _) _ _; first | (show Walk1 _ _ _ (⟨_, .assign _, _, _, _, _⟩ :: _) _ _; refine walk1_t (op_assignN rfl rfl rfl rfl) ?_) | (show Walk1 _ _ _ (⟨_, .load _ _, _, _, _, _⟩ :: _) _ _; refine walk1_t (op_loadsC rfl rfl rfl rfl rfl rfl rfl rfl (sm_c (by assumption)) ag_c) ?_) | (show Walk1 _ _ _ (⟨_, .store _ _ _, _, _, _, _⟩ :: _) _ _; refine walk1_b (op_storesC rfl rfl rfl rfl rfl rfl rfl (by with_reducible assumption) (by with_reducible assumption)) ?_)) | refine go1 ?_ | refine end_block_other rfl ?_ | refine end_scope (fun _ h => by cases h) ?_ | (refine walk_endD ?_ ?_; (· kernel_rfl)) | refine tri_yesA rfl ?_ | refine tri_noA rfl ?_ | refine tri_trueA rfl ?_ | refine tri_falseA rfl ?_)
  refine end_ret _ (res_cellT rfl rfl rfl rfl rfl rfl rfl hRs) ?_
  exact fin_below fun _ => rfl
end Go.Proofs.Ytlhedoodbadmgaa
namespace Go.Proofs.Ytlhedoodbadmgaa
open Go.RowKit
set_option maxRecDepth 100000
set_option maxHeartbeats 400000
attribute [local irreducible] Calls Walk1 WalkTo Tri EndA
theorem works31_any (w : World) : Calls Try.prog 12 #[] w fun e w' => e = .returned (.bool true) ∧ Below w.heap.size w w' := by
  have cp := fun w => plain_any w
  have cm := fun w => make0_any w
  have l1 := shaL_length (zE 9)
  have l2 := shaL_length []
  generalize shaL (zE 9) = S1 at *
  generalize shaL [] = S2 at *
  have hok : (rec0 S1 S2).ok := ⟨l1, l2⟩
  have hF := recF (rec0 S1 S2) hok (.slice none 0 0)
  have hfs : ∀ w, FS w 1 (.slice none 0 0) 0 (valsL .u64 ([] : List (BitVec 64))) := fun w => ⟨⟨rfl, none, 0, rfl, .inl rfl⟩, none, 0, rfl, Nat.le_refl _⟩
  have ce := fun w => encode_any (rec0 S1 S2) hok [] (Nat.zero_le _) (.slice none 0 0) (recA (rec0 S1 S2) (.slice none 0 0)) hF w (hfs w)
  have hL : (encL (rec0 S1 S2) []).length = 173 := by
    rw [encL, if_pos (rec0_may S1 S2), encB_length _ hok]
    rfl
  rw [rec0_may] at ce
  have hRs := hF.size
  have hRo := rec0_one S1 S2
  clear hF hfs
  generalize recA (rec0 S1 S2) (.slice none 0 0) = R at *
  generalize encL (rec0 S1 S2) [] = EL at *
  clear hok l1 l2
  unfold scene0 at cm
  have hzs : zS.c = #[.int .i64 0, .int .i64 0, .int .i64 0] := rfl
  rw [hzs] at cm
  have hps : plainV.c.size = 21 := rfl
  generalize plainV.c = PV at *
  refine calls_tri Try.func12 rfl Try.ntmps12 rfl ?_
  repeat (first | (show Walk1 _ _ _ (_ :: _) _ _; first | (show Walk1 _ _ _ (⟨_, _, _, _, _, some _⟩ :: _) _ _; refine walk1_yes rfl rfl (by first | exact decide_eq_true (by omega) | exact decide_eq_false (by omega) | rfl | (show _ = true; with_reducible assumption) | (show _ = false; with_reducible assumption) | (simp <;> fail) | omega) ?_) | (show Walk1 _ _ _ (⟨_, .move _, _, _, _, _⟩ :: _) _ _; refine walk1_t (op_move rfl rfl rfl rfl) ?_) | (show Walk1 _ _ _ (⟨_, .assign _, _, _, _, _⟩ :: _) _ _; refine walk1_t (op_assign rfl rfl rfl rfl) ?_) | (show Walk1 _ _ _ (⟨_, .binOp .eql _ _ _ _, _, _, _, _⟩ :: _) _ _; refine walk1_t (op_eqN rfl rfl rfl (by first | exact evN_const rfl | exact rfl) (by first | exact evN_const rfl | exact rfl)) ?_) | (show Walk1 _ _ _ (⟨_, .pick _ _ _, _, _, _, _⟩ :: _) _ _; refine walk1_t (op_pickY rfl rfl rfl rfl (by first | exact decide_eq_true (by omega) | exact decide_eq_false (by omega) | rfl | (show _ = true; with_reducible assumption) | (show _ = false; with_reducible assumption) | (simp <;> fail) | omega) rfl) ?_) | (show Walk1 _ _ _ (⟨_, .load _ _, _, _, _, _⟩ :: _) _ _; refine walk1_t (op_loadsC rfl rfl rfl rfl rfl rfl rfl rfl (sm_c (by assumption)) ag_c) ?_) | (show Walk1 _ _ _ (⟨_, .store _ _ _, _, _, _, _⟩ :: _) _ _; refine walk1_b (op_storesC rfl rfl rfl rfl rfl rfl rfl (by with_reducible assumption) (by with_reducible assumption)) ?_) | (show Walk1 _ _ _ (⟨_, .alloc _, _, _, _, _⟩ :: _) _ _; refine walk1_n (op_alloc rfl rfl rfl rfl rfl) (by kernel_rfl) ?_) | (show Walk1 _ _ _ (⟨_, .extract _ _, _, _, _, _⟩ :: _) _ _; first | refine walk1_t (op_ext0 rfl rfl rfl rfl) ?_ | refine walk1_t (op_ext1 rfl rfl rfl rfl) ?_ | refine walk1_t (op_extract rfl rfl rfl rfl rfl) ?_) | (show Walk1 _ _ _ (⟨_, .build _ _, _, _, _, _⟩ :: _) _ _; refine walk1_t (op_build0 rfl rfl rfl rfl rfl rfl) ?_) | (show Walk1 _ _ _ (⟨_, .call ⟨.builtin .len, _, _⟩, _, _, _, _⟩ :: _) _ _; refine walk1_t (op_lenV rfl rfl rfl rfl) ?_) | (show Walk1 _ _ _ (⟨_, .call ⟨.value (.func 29), _, _⟩, _, _, _, _⟩ :: _) _ _; ((first | refine walk1_call rfl rfl rfl rfl (by repeat (first | exact evs_nil | apply evs_cons rfl)) rfl ?_ | refine walk1_call0 rfl rfl rfl (by repeat (first | exact evs_nil | apply evs_cons rfl)) rfl ?_); refine ⟨_, fun e w => cp w, ?_⟩)) | (show Walk1 _ _ _ (⟨_, .call ⟨.value (.func 9), _, _⟩, _, _, _, _⟩ :: _) _ _; ((first | refine walk1_call rfl rfl rfl rfl (by repeat (first | exact evs_nil | apply evs_cons rfl)) rfl ?_ | refine walk1_call0 rfl rfl rfl (by repeat (first | exact evs_nil | apply evs_cons rfl)) rfl ?_); refine ⟨_, fun e w => cm w, ?_⟩)) | (show Walk1 _ _ _ (⟨_, .call ⟨.value (.func 18), _, _⟩, _, _, _, _⟩ :: _) _ _; (refine walk1_callOT rfl rfl rfl rfl (by kernel_rfl) (by repeat (first | exact evs_nil | apply evs_cons rfl)) rfl ?_; refine ⟨_, _, _, _, _, _, callOT_0 (fun e w => ce w), ?_⟩))) | refine go1 ?_ | refine end_block_other rfl ?_ | refine end_scope (fun _ h => by cases h) ?_ | (refine walk_endD ?_ ?_; (· kernel_rfl)) | refine tri_yesA rfl ?_ | refine tri_noA rfl ?_ | refine tri_trueA rfl ?_ | refine tri_falseA rfl ?_)
  refine end_ret _ (res_tmp rfl rfl) ?_
  exact fin_below fun _ => congrArg Value.bool (by simp [hL])
end Go.Proofs.Ytlhedoodbadmgaa
