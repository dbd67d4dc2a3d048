/- Blocks taken in, walked. No condition. A sum that is made bit by bit, plain. No condition. -/
import Derived.Test.YtihbiejgebmeaaaSha1
import Derived.Test.YtihbiejgebmeaaaSymLR
namespace Go.Proofs.Ytihbiejgebmeaaa
open Go.RowKit
set_option maxRecDepth 100000
set_option maxHeartbeats 4000000
attribute [local irreducible] Calls Walk1 WalkTo Tri EndA
theorem rotl_any (x : BitVec 32) (n : Nat) (h0 : 0 < n) (h1 : n < 32) (w : World) : Calls Try.prog 54 #[.int .u32 (bvi x), .int .i64 (-(n : Int))] w fun e w' => e = .returned (.int .u32 (bvi (rotr x n))) ∧ Below w.heap.size w w' := by
  have hr := rotl_rotr x n h0 h1
  rw [show (31#64) = BitVec.ofInt 64 31 from rfl, show (32#64) = BitVec.ofInt 64 32 from rfl] at hr
  rw [← hr]
  generalize hz : -(n : Int) = z
  clear hr
  refine calls_tri Try.func54 rfl Try.ntmps54 rfl ?_
  repeat (first | (show Walk1 _ _ _ (_ :: _) _ _; first | (show Walk1 _ _ _ (⟨_, .move _, _, _, _, _⟩ :: _) _ _; refine walk1_t (op_move rfl rfl rfl rfl) ?_) | (show Walk1 _ _ _ (⟨_, .assign _, _, _, _, _⟩ :: _) _ _; refine walk1_t (op_assign rfl rfl rfl rfl) ?_) | (show Walk1 _ _ _ (⟨_, .binOp .sub _ _ _ _, _, _, _, _⟩ :: _) _ _; refine walk1_t (op_subB2 rfl rfl rfl (by (first | exact evB_tmp rfl | exact evB_lit rfl rfl)) (by (first | exact evB_tmp rfl | exact evB_lit rfl rfl))) ?_) | (show Walk1 _ _ _ (⟨_, .binOp .and _ _ _ _, _, _, _, _⟩ :: _) _ _; refine walk1_t (op_andB rfl rfl rfl (by (first | exact evB_tmp rfl | exact evB_lit rfl rfl)) (by (first | exact evB_tmp rfl | exact evB_lit rfl rfl))) ?_) | (show Walk1 _ _ _ (⟨_, .binOp .or _ _ _ _, _, _, _, _⟩ :: _) _ _; refine walk1_t (op_orB rfl rfl rfl (by (first | exact evB_tmp rfl | exact evB_lit rfl rfl)) (by (first | exact evB_tmp rfl | exact evB_lit rfl rfl))) ?_) | (show Walk1 _ _ _ (⟨_, .binOp .shr _ _ _ _, _, _, _, _⟩ :: _) _ _; refine walk1_t (op_shrB rfl rfl rfl (by (first | exact evB_tmp rfl | exact evB_lit rfl rfl)) (by first | exact evK_const rfl | exact evK_tmp rfl)) ?_) | (show Walk1 _ _ _ (⟨_, .binOp .shl _ _ _ _, _, _, _, _⟩ :: _) _ _; refine walk1_t (op_shlB rfl rfl rfl (by (first | exact evB_tmp rfl | exact evB_lit rfl rfl)) (by first | exact evK_const rfl | exact evK_tmp rfl)) ?_) | (show Walk1 _ _ _ (⟨_, .convert _ _ _, _, _, _, _⟩ :: _) _ _; refine walk1_t (op_convIB rfl rfl rfl rfl rfl rfl) ?_)) | refine go1 ?_ | refine end_block_other rfl ?_ | refine end_scope (fun _ h => by cases h) ?_ | (refine walk_endD ?_ ?_; (· kernel_rfl)) | refine tri_yesA rfl ?_ | refine tri_noA rfl ?_ | refine tri_trueA rfl ?_ | refine tri_falseA rfl ?_)
  refine end_ret _ (res_tmp rfl rfl) ?_
  exact fin_below fun _ => rfl
theorem shaRot_any (x : BitVec 32) (z : Int) (h0 : 0 < z) (h1 : z < 32) (w : World) : Calls Try.prog 48 #[.int .u32 (bvi x), .int .i64 z] w fun e w' => e = .returned (.int .u32 (bvi (rotr x z.toNat))) ∧ Below w.heap.size w w' := by
  obtain ⟨n, rfl⟩ : ∃ n : Nat, z = (n : Int) := ⟨z.toNat, by omega⟩
  have c := fun w => rotl_any x n (by omega) (by omega) w
  rw [Int.toNat_natCast]
  refine calls_tri Try.func48 rfl Try.ntmps48 rfl ?_
  repeat (first | (show Walk1 _ _ _ (_ :: _) _ _; first | (show Walk1 _ _ _ (⟨_, .move _, _, _, _, _⟩ :: _) _ _; refine walk1_t (op_move rfl rfl rfl rfl) ?_) | (show Walk1 _ _ _ (⟨_, .assign _, _, _, _, _⟩ :: _) _ _; refine walk1_t (op_assign rfl rfl rfl rfl) ?_) | (show Walk1 _ _ _ (⟨_, .unOp _ _ _, _, _, _, _⟩ :: _) _ _; refine walk1_t (op_negI rfl rfl rfl rfl (by omega)) ?_) | (show Walk1 _ _ _ (⟨_, .call ⟨.value (.func 54), _, _⟩, _, _, _, _⟩ :: _) _ _; ((first | refine walk1_call rfl rfl rfl rfl (by repeat (first | exact evs_nil | apply evs_cons rfl)) rfl ?_ | refine walk1_call0 rfl rfl rfl (by repeat (first | exact evs_nil | apply evs_cons rfl)) rfl ?_); refine ⟨_, fun e w => c w, ?_⟩))) | refine go1 ?_ | refine end_block_other rfl ?_ | refine end_scope (fun _ h => by cases h) ?_ | (refine walk_endD ?_ ?_; (· kernel_rfl)) | refine tri_yesA rfl ?_ | refine tri_noA rfl ?_ | refine tri_trueA rfl ?_ | refine tri_falseA rfl ?_)
  refine end_ret _ (res_tmp rfl rfl) ?_
  exact fin_below fun _ => rfl
theorem shaComp_any (h : List (BitVec 32)) (B : List (BitVec 8)) (w : World) (hh : h.length = 8) (hB : B.length = 64) :
    Calls Try.prog 40 #[.agg (vals .u32 h), .agg (vals .u8 B)] w fun e w' => e = .returned (.agg (vals .u32 (compL h B))) ∧ Below w.heap.size w w' := by
  have cr := shaRot_any
  unfold compL
  have hK : kS.length = 64 := rfl
  refine calls_tri Try.func40 rfl Try.ntmps40 rfl ?_
  repeat (first | (show Walk1 _ _ _ (_ :: _) _ _; first | (show Walk1 _ _ _ (⟨_, .move _, _, _, _, _⟩ :: _) _ _; refine walk1_t (op_moveN rfl rfl rfl rfl) ?_) | (show Walk1 _ _ _ (⟨_, .store _ _ _, _, _, _, _⟩ :: _) _ _; refine walk1_b (op_stores rfl rfl rfl rfl rfl rfl rfl) ?_) | (show Walk1 _ _ _ (⟨_, .alloc _, _, _, _, _⟩ :: _) _ _; refine walk1_n (op_alloc rfl rfl rfl rfl rfl) (by kernel_rfl) ?_) | (show Walk1 _ _ _ (⟨_, .box _ _, _, _, _, _⟩ :: _) _ _; refine walk1_n (op_box rfl rfl rfl rfl rfl) (by kernel_rfl) ?_) | (show Walk1 _ _ _ (⟨_, .build _ _, _, _, _, _⟩ :: _) _ _; refine walk1_t (op_buildV rfl rfl rfl rfl rfl rfl (by repeat (first | exact evl_nil | (apply evl_cons; (· (first | exact evB_tmp rfl | exact evB_lit rfl rfl))))) rfl) ?_)) | refine go1 ?_ | refine end_block_other rfl ?_ | refine end_scope (fun _ h => by cases h) ?_ | (refine walk_endD ?_ ?_; (· kernel_rfl)) | refine tri_yesA rfl ?_ | refine tri_noA rfl ?_ | refine tri_trueA rfl ?_ | refine tri_falseA rfl ?_)
  refine tri_loop (X := Nat) (fun i => ⟨[(18, SV.c (.int .i64 ((i : Nat) : Int))), (2, .p 2 0), (3, .p 3 0), (4, .p 4 0), (5, .p 5 0), (6, .p 6 0)], [(2, some (.blk 2 96 (.c (vals .u32 (h))))), (3, some (.blk 3 97 (.c (vals .u8 (B))))), (4, some (.blk 4 96 (.c (vals .u32 (List.replicate 8 0#32))))), (5, some (.blk 5 114 (.c (vals .u32 (kS))))), (6, some (.blk 6 114 (.c (vals .u32 (wL B i ++ List.replicate (64 - i) 0#32)))))]⟩)
    (fun i => i ≤ 64) (fun i => 64 - i) 0 (by omega) (ent_keep (by repeat (first | exact hasT_nil | refine hasT_cons rfl ?_ | refine hasT_eq rfl (svi (by omega)) ?_)) (by repeat (first | exact hasR_nil | (refine hasR_cons (by kernel_rfl) ?_)))) ?_
  generalize kS = K at *
  intro i hi K1 next
  by_cases h1 : i < 64
  · have hl := wL_length B i
    have hset := fun x => app_zset (l := wL B i) (n := 64) (x := x) hl h1
    have hWl : (wL B i ++ List.replicate (64 - i) 0#32).length = 64 := by simp [hl]; omega
    have hn : wL B (i + 1) = wL B i ++ [wWord B (wL B i) i] := rfl
    by_cases h2 : i < 16
    · rw [wWord_lo B i h2] at hn
      generalize wL B i ++ List.replicate (64 - i) 0#32 = W at *
      repeat (first | (show Walk1 _ _ _ (_ :: _) _ _; first | (show Walk1 _ _ _ (⟨_, .move _, _, _, _, _⟩ :: _) _ _; refine walk1_t (op_move rfl rfl rfl rfl) ?_) | (show Walk1 _ _ _ (⟨_, .assign _, _, _, _, _⟩ :: _) _ _; refine walk1_t (op_assign rfl rfl rfl rfl) ?_) | (show Walk1 _ _ _ (⟨_, .binOp .add _ _ _ _, _, _, _, _⟩ :: _) _ _; refine walk1_t (op_addN rfl rfl rfl (by first | exact evN_const rfl | exact rfl) (by first | exact evN_const rfl | exact rfl) (by omega)) ?_) | (show Walk1 _ _ _ (⟨_, .binOp .lss _ _ _ _, _, _, _, _⟩ :: _) _ _; refine walk1_t (op_ltN rfl rfl rfl (by first | exact evN_const rfl | exact rfl) (by first | exact evN_const rfl | exact rfl)) ?_)) | (show WalkTo _ _ _ _ (_ :: _) _ _ _; first | (show WalkTo _ _ _ _ (⟨_, .move _, _, _, _, _⟩ :: _) _ _ _; refine walk_t (op_move rfl rfl rfl rfl) ?_) | (show WalkTo _ _ _ _ (⟨_, .binOp .add _ _ _ _, _, _, _, _⟩ :: _) _ _ _; refine walk_t (op_addN rfl rfl rfl (by first | exact evN_const rfl | exact rfl) (by first | exact evN_const rfl | exact rfl) (by omega)) ?_) | (show WalkTo _ _ _ _ (⟨_, .binOp .mul _ _ _ _, _, _, _, _⟩ :: _) _ _ _; refine walk_t (op_mulN rfl rfl rfl (by first | exact evN_const rfl | exact rfl) (by first | exact evN_const rfl | exact rfl) (by omega)) ?_) | (show WalkTo _ _ _ _ (⟨_, .binOp .or _ _ _ _, _, _, _, _⟩ :: _) _ _ _; refine walk_t (op_orB rfl rfl rfl (by (first | exact evB_tmp rfl | exact evB_lit rfl rfl)) (by (first | exact evB_tmp rfl | exact evB_lit rfl rfl))) ?_) | (show WalkTo _ _ _ _ (⟨_, .binOp .shl _ _ _ _, _, _, _, _⟩ :: _) _ _ _; refine walk_t (op_shlB rfl rfl rfl (by (first | exact evB_tmp rfl | exact evB_lit rfl rfl)) (by first | exact evK_const rfl | exact evK_tmp rfl)) ?_) | (show WalkTo _ _ _ _ (⟨_, .indexAddr _ _ _, _, _, _, _⟩ :: _) _ _ _; refine walk_t (op_idxP rfl rfl rfl rfl (by first | exact evK_const rfl | exact evK_tmp rfl) rfl rfl (by first | omega | decide) off_one) ?_) | (show WalkTo _ _ _ _ (⟨_, .load _ _, _, _, _, _⟩ :: _) _ _ _; refine walk_t (op_load rfl rfl rfl rfl rfl rfl rfl) ?_) | (show WalkTo _ _ _ _ (⟨_, .store _ _ _, _, _, _, _⟩ :: _) _ _ _; refine walk_b (op_store rfl rfl rfl rfl rfl rfl rfl) ?_) | (show WalkTo _ _ _ _ (⟨_, .convert _ _ _, _, _, _, _⟩ :: _) _ _ _; refine walk_t (op_convBB rfl rfl rfl (by (first | exact evB_tmp rfl | exact evB_lit rfl rfl)) rfl rfl) ?_)) | refine go1 ?_ | refine end_block_other rfl ?_ | refine end_scope (fun _ h => by cases h) ?_ | (refine walk_endD ?_ ?_; (· kernel_rfl)) | refine tri_yesA rfl ?_ | refine tri_noA rfl ?_ | refine tri_trueA rfl ?_ | refine tri_falseA rfl ?_)
      refine next _ (i + 1) (by omega) (by omega) ?_
      rw [hset, hn]
      exact ent_keep (by repeat (first | exact hasT_nil | refine hasT_cons rfl ?_ | refine hasT_eq rfl (svi (by omega)) ?_)) (by repeat (first | exact hasR_nil | refine hasR_cons rfl ?_))
    · rw [wWord_hi B i h2] at hn
      have g16 := gt_app_lt (l := wL B i) (r := List.replicate (64 - i) 0#32) (j := i - 16) (by omega)
      have g15 := gt_app_lt (l := wL B i) (r := List.replicate (64 - i) 0#32) (j := i - 15) (by omega)
      have g7 := gt_app_lt (l := wL B i) (r := List.replicate (64 - i) 0#32) (j := i - 7) (by omega)
      have g2 := gt_app_lt (l := wL B i) (r := List.replicate (64 - i) 0#32) (j := i - 2) (by omega)
      rw [← g16, ← g15, ← g7, ← g2] at hn
      generalize wL B i ++ List.replicate (64 - i) 0#32 = W at *
      repeat (first | (show Walk1 _ _ _ (_ :: _) _ _; first | (show Walk1 _ _ _ (⟨_, .move _, _, _, _, _⟩ :: _) _ _; refine walk1_t (op_move rfl rfl rfl rfl) ?_) | (show Walk1 _ _ _ (⟨_, .assign _, _, _, _, _⟩ :: _) _ _; refine walk1_t (op_assign rfl rfl rfl rfl) ?_) | (show Walk1 _ _ _ (⟨_, .binOp .add _ _ _ _, _, _, _, _⟩ :: _) _ _; refine walk1_t (op_addN rfl rfl rfl (by first | exact evN_const rfl | exact rfl) (by first | exact evN_const rfl | exact rfl) (by omega)) ?_) | (show Walk1 _ _ _ (⟨_, .binOp .lss _ _ _ _, _, _, _, _⟩ :: _) _ _; refine walk1_t (op_ltN rfl rfl rfl (by first | exact evN_const rfl | exact rfl) (by first | exact evN_const rfl | exact rfl)) ?_)) | (show WalkTo _ _ _ _ (_ :: _) _ _ _; first | (show WalkTo _ _ _ _ (⟨_, .move _, _, _, _, _⟩ :: _) _ _ _; refine walk_t (op_move rfl rfl rfl rfl) ?_) | (show WalkTo _ _ _ _ (⟨_, .assign _, _, _, _, _⟩ :: _) _ _ _; refine walk_t (op_assign rfl rfl rfl rfl) ?_) | (show WalkTo _ _ _ _ (⟨_, .binOp .add _ _ _ _, _, _, _, _⟩ :: _) _ _ _; refine walk_t (op_addB rfl rfl rfl (by (first | exact evB_tmp rfl | exact evB_lit rfl rfl)) (by (first | exact evB_tmp rfl | exact evB_lit rfl rfl))) ?_) | (show WalkTo _ _ _ _ (⟨_, .binOp .sub _ _ _ _, _, _, _, _⟩ :: _) _ _ _; refine walk_t (op_subN rfl rfl rfl (by first | exact evN_const rfl | exact rfl) (by first | exact evN_const rfl | exact rfl) (by omega)) ?_) | (show WalkTo _ _ _ _ (⟨_, .binOp .xor _ _ _ _, _, _, _, _⟩ :: _) _ _ _; refine walk_t (op_xorB rfl rfl rfl (by (first | exact evB_tmp rfl | exact evB_lit rfl rfl)) (by (first | exact evB_tmp rfl | exact evB_lit rfl rfl))) ?_) | (show WalkTo _ _ _ _ (⟨_, .binOp .shr _ _ _ _, _, _, _, _⟩ :: _) _ _ _; refine walk_t (op_shrB rfl rfl rfl (by (first | exact evB_tmp rfl | exact evB_lit rfl rfl)) (by first | exact evK_const rfl | exact evK_tmp rfl)) ?_) | (show WalkTo _ _ _ _ (⟨_, .indexAddr _ _ _, _, _, _, _⟩ :: _) _ _ _; refine walk_t (op_idxP rfl rfl rfl rfl (by first | exact evK_const rfl | exact evK_tmp rfl) rfl rfl (by first | omega | decide) off_one) ?_) | (show WalkTo _ _ _ _ (⟨_, .load _ _, _, _, _, _⟩ :: _) _ _ _; refine walk_t (op_load rfl rfl rfl rfl rfl rfl rfl) ?_) | (show WalkTo _ _ _ _ (⟨_, .store _ _ _, _, _, _, _⟩ :: _) _ _ _; refine walk_b (op_store rfl rfl rfl rfl rfl rfl rfl) ?_) | (show WalkTo _ _ _ _ (⟨_, .call ⟨.value (.func 48), _, _⟩, _, _, _, _⟩ :: _) _ _ _; ((first | refine walk_call rfl rfl rfl rfl (by repeat (first | exact evs_nil | apply evs_cons rfl)) rfl ?_ | refine walk_call0 rfl rfl rfl (by repeat (first | exact evs_nil | apply evs_cons rfl)) rfl ?_); refine ⟨_, fun e w => cr _ _ (by decide) (by decide) w, ?_⟩))) | refine go1 ?_ | refine end_block_other rfl ?_ | refine end_scope (fun _ h => by cases h) ?_ | (refine walk_endD ?_ ?_; (· kernel_rfl)) | refine tri_yesA rfl ?_ | refine tri_noA rfl ?_ | refine tri_trueA rfl ?_ | refine tri_falseA rfl ?_)
      refine next _ (i + 1) (by omega) (by omega) ?_
      rw [hset, hn]
      exact ent_keep (by repeat (first | exact hasT_nil | refine hasT_cons rfl ?_ | refine hasT_eq rfl (svi (by omega)) ?_)) (by repeat (first | exact hasR_nil | refine hasR_cons rfl ?_))
  · obtain rfl : i = 64 := by omega
    rw [show wL B 64 ++ List.replicate (64 - 64) 0#32 = wL B 64 from List.append_nil _]
    have hWl := wL_length B 64
    unfold compK
    generalize wL B 64 = W at *
    repeat (first | (show Walk1 _ _ _ (_ :: _) _ _; first | (show Walk1 _ _ _ (⟨_, .move _, _, _, _, _⟩ :: _) _ _; refine walk1_t (op_moveN rfl rfl rfl rfl) ?_) | (show Walk1 _ _ _ (⟨_, .binOp .lss _ _ _ _, _, _, _, _⟩ :: _) _ _; refine walk1_t (op_ltN rfl rfl rfl (by first | exact evN_const rfl | exact rfl) (by first | exact evN_const rfl | exact rfl)) ?_) | (show Walk1 _ _ _ (⟨_, .load _ _, _, _, _, _⟩ :: _) _ _; refine walk1_t (op_loads rfl rfl rfl rfl rfl rfl rfl rfl) ?_) | (show Walk1 _ _ _ (⟨_, .store _ _ _, _, _, _, _⟩ :: _) _ _; refine walk1_b (op_stores rfl rfl rfl rfl rfl rfl rfl) ?_) | (show Walk1 _ _ _ (⟨_, .alloc _, _, _, _, _⟩ :: _) _ _; refine walk1_n (op_alloc rfl rfl rfl rfl rfl) (by kernel_rfl) ?_)) | refine go1 ?_ | refine end_block_other rfl ?_ | refine end_scope (fun _ h => by cases h) ?_ | (refine walk_endD ?_ ?_; (· kernel_rfl)) | refine tri_yesA rfl ?_ | refine tri_noA rfl ?_ | refine tri_trueA rfl ?_ | refine tri_falseA rfl ?_)
    refine tri_loop (X := Nat) (fun i => ⟨[(93, SV.c (.int .i64 ((i : Nat) : Int))), (2, .p 2 0), (4, .p 4 0), (5, .p 5 0), (6, .p 6 0), (10, .p 10 0)], [(2, some (.blk 2 96 (.c (vals .u32 (h))))), (4, some (.blk 4 96 (.c (vals .u32 (List.replicate 8 0#32))))), (5, some (.blk 5 114 (.c (vals .u32 (K))))), (6, some (.blk 6 114 (.c (vals .u32 (W))))), (10, some (.blk 10 96 (.c (vals .u32 (rndsK K W h i)))))]⟩)
      (fun i => i ≤ 64) (fun i => 64 - i) 0 (by omega) (ent_keep (by repeat (first | exact hasT_nil | refine hasT_cons rfl ?_ | refine hasT_eq rfl (svi (by omega)) ?_)) (by repeat (first | exact hasR_nil | refine hasR_cons rfl ?_))) ?_
    intro i hi K2 next
    have hSl := rndsK_length K W h hh i
    by_cases h2 : i < 64
    · have hn : rndsK K W h (i + 1) = rnd (rndsK K W h i) (gt K i) (gt W i) := rfl
      generalize rndsK K W h i = S at *
      repeat (first | (show Walk1 _ _ _ (_ :: _) _ _; first | (show Walk1 _ _ _ (⟨_, .move _, _, _, _, _⟩ :: _) _ _; refine walk1_t (op_move rfl rfl rfl rfl) ?_) | (show Walk1 _ _ _ (⟨_, .assign _, _, _, _, _⟩ :: _) _ _; refine walk1_t (op_assign rfl rfl rfl rfl) ?_) | (show Walk1 _ _ _ (⟨_, .binOp .add _ _ _ _, _, _, _, _⟩ :: _) _ _; first | refine walk1_t (op_addN rfl rfl rfl (by first | exact evN_const rfl | exact rfl) (by first | exact evN_const rfl | exact rfl) (by omega)) ?_ | refine walk1_t (op_addB rfl rfl rfl (by (first | exact evB_tmp rfl | exact evB_lit rfl rfl)) (by (first | exact evB_tmp rfl | exact evB_lit rfl rfl))) ?_) | (show Walk1 _ _ _ (⟨_, .binOp .lss _ _ _ _, _, _, _, _⟩ :: _) _ _; refine walk1_t (op_ltN rfl rfl rfl (by first | exact evN_const rfl | exact rfl) (by first | exact evN_const rfl | exact rfl)) ?_) | (show Walk1 _ _ _ (⟨_, .indexAddr _ _ _, _, _, _, _⟩ :: _) _ _; refine walk1_t (op_idxP rfl rfl rfl rfl (by first | exact evK_const rfl | exact evK_tmp rfl) rfl rfl (by first | omega | decide) off_one) ?_) | (show Walk1 _ _ _ (⟨_, .load _ _, _, _, _, _⟩ :: _) _ _; refine walk1_t (op_load rfl rfl rfl rfl rfl rfl rfl) ?_) | (show Walk1 _ _ _ (⟨_, .store _ _ _, _, _, _, _⟩ :: _) _ _; refine walk1_b (op_stores rfl rfl rfl rfl rfl rfl rfl) ?_) | (show Walk1 _ _ _ (⟨_, .build _ _, _, _, _, _⟩ :: _) _ _; refine walk1_t (op_buildV rfl rfl rfl rfl rfl rfl (by repeat (first | exact evl_nil | (apply evl_cons; (· (first | exact evB_tmp rfl | exact evB_lit rfl rfl))))) rfl) ?_)) | (show WalkTo _ _ _ _ (_ :: _) _ _ _; first | (show WalkTo _ _ _ _ (⟨_, .move _, _, _, _, _⟩ :: _) _ _ _; refine walk_t (op_move rfl rfl rfl rfl) ?_) | (show WalkTo _ _ _ _ (⟨_, .assign _, _, _, _, _⟩ :: _) _ _ _; refine walk_t (op_assign rfl rfl rfl rfl) ?_) | (show WalkTo _ _ _ _ (⟨_, .binOp .add _ _ _ _, _, _, _, _⟩ :: _) _ _ _; refine walk_t (op_addB rfl rfl rfl (by (first | exact evB_tmp rfl | exact evB_lit rfl rfl)) (by (first | exact evB_tmp rfl | exact evB_lit rfl rfl))) ?_) | (show WalkTo _ _ _ _ (⟨_, .binOp .and _ _ _ _, _, _, _, _⟩ :: _) _ _ _; refine walk_t (op_andB rfl rfl rfl (by (first | exact evB_tmp rfl | exact evB_lit rfl rfl)) (by (first | exact evB_tmp rfl | exact evB_lit rfl rfl))) ?_) | (show WalkTo _ _ _ _ (⟨_, .binOp .xor _ _ _ _, _, _, _, _⟩ :: _) _ _ _; refine walk_t (op_xorB rfl rfl rfl (by (first | exact evB_tmp rfl | exact evB_lit rfl rfl)) (by (first | exact evB_tmp rfl | exact evB_lit rfl rfl))) ?_) | (show WalkTo _ _ _ _ (⟨_, .unOp _ _ _, _, _, _, _⟩ :: _) _ _ _; refine walk_t (op_notB rfl rfl rfl (by (first | exact evB_tmp rfl | exact evB_lit rfl rfl))) ?_) | (show WalkTo _ _ _ _ (⟨_, .indexAddr _ _ _, _, _, _, _⟩ :: _) _ _ _; refine walk_t (op_idxP rfl rfl rfl rfl (by first | exact evK_const rfl | exact evK_tmp rfl) rfl rfl (by first | omega | decide) off_one) ?_) | (show WalkTo _ _ _ _ (⟨_, .load _ _, _, _, _, _⟩ :: _) _ _ _; refine walk_t (op_load rfl rfl rfl rfl rfl rfl rfl) ?_) | (show WalkTo _ _ _ _ (⟨_, .call ⟨.value (.func 48), _, _⟩, _, _, _, _⟩ :: _) _ _ _; ((first | refine walk_call rfl rfl rfl rfl (by repeat (first | exact evs_nil | apply evs_cons rfl)) rfl ?_ | refine walk_call0 rfl rfl rfl (by repeat (first | exact evs_nil | apply evs_cons rfl)) rfl ?_); refine ⟨_, fun e w => cr _ _ (by decide) (by decide) w, ?_⟩))) | refine go1 ?_ | refine end_block_other rfl ?_ | refine end_scope (fun _ h => by cases h) ?_ | (refine walk_endD ?_ ?_; (· kernel_rfl)) | refine tri_yesA rfl ?_ | refine tri_noA rfl ?_ | refine tri_trueA rfl ?_ | refine tri_falseA rfl ?_)
      refine next _ (i + 1) (by omega) (by omega) ?_
      rw [hn]
      exact ent_keep (by repeat (first | exact hasT_nil | refine hasT_cons rfl ?_ | refine hasT_eq rfl (svi (by omega)) ?_)) (by repeat (first | exact hasR_nil | refine hasR_cons rfl ?_))
    · obtain rfl : i = 64 := by omega
      generalize rndsK K W h 64 = S at *
      have hal := addL_length S h hSl hh
      have hag := fun i h1 => addL_gt S h i (h1 : i < S.length) (by omega)
      generalize addL S h = R at *
      repeat (first | (show Walk1 _ _ _ (_ :: _) _ _; first | (show Walk1 _ _ _ (⟨_, .move _, _, _, _, _⟩ :: _) _ _; refine walk1_t (op_moveN rfl rfl rfl rfl) ?_) | (show Walk1 _ _ _ (⟨_, .binOp .lss _ _ _ _, _, _, _, _⟩ :: _) _ _; refine walk1_t (op_ltN rfl rfl rfl (by first | exact evN_const rfl | exact rfl) (by first | exact evN_const rfl | exact rfl)) ?_)) | refine go1 ?_ | refine end_block_other rfl ?_ | refine end_scope (fun _ h => by cases h) ?_ | (refine walk_endD ?_ ?_; (· kernel_rfl)) | refine tri_yesA rfl ?_ | refine tri_noA rfl ?_ | refine tri_trueA rfl ?_ | refine tri_falseA rfl ?_)
      refine tri_loop (X := Nat) (fun j => ⟨[(175, SV.c (.int .i64 ((j : Nat) : Int))), (2, .p 2 0), (4, .p 4 0), (10, .p 10 0)], [(2, some (.blk 2 96 (.c (vals .u32 (h))))), (4, some (.blk 4 96 (.c (vals .u32 (List.replicate 8 0#32))))), (10, some (.blk 10 96 (.c (vals .u32 (R.take j ++ S.drop j)))))]⟩)
        (fun j => j ≤ 8) (fun j => 8 - j) 0 (by omega) (ent_keep (by repeat (first | exact hasT_nil | refine hasT_cons rfl ?_ | refine hasT_eq rfl (svi (by omega)) ?_)) (by repeat (first | exact hasR_nil | refine hasR_cons rfl ?_))) ?_
      intro j hj K3 next3
      by_cases h3 : j < 8
      · have hgj := mid_getS (X := R) (D := S) (j := j) (by omega) (by omega)
        have hsj := mid_setS (X := R) (D := S) (j := j) (by omega) (by omega)
        have hll : (R.take j ++ S.drop j).length = 8 := by simp; omega
        have hagj := hag j (by omega)
        generalize R.take j ++ S.drop j = M at *
        repeat (first | (show Walk1 _ _ _ (_ :: _) _ _; first | (show Walk1 _ _ _ (⟨_, .move _, _, _, _, _⟩ :: _) _ _; refine walk1_t (op_move rfl rfl rfl rfl) ?_) | (show Walk1 _ _ _ (⟨_, .assign _, _, _, _, _⟩ :: _) _ _; refine walk1_t (op_assign rfl rfl rfl rfl) ?_) | (show Walk1 _ _ _ (⟨_, .binOp .add _ _ _ _, _, _, _, _⟩ :: _) _ _; refine walk1_t (op_addN rfl rfl rfl (by first | exact evN_const rfl | exact rfl) (by first | exact evN_const rfl | exact rfl) (by omega)) ?_) | (show Walk1 _ _ _ (⟨_, .binOp .lss _ _ _ _, _, _, _, _⟩ :: _) _ _; refine walk1_t (op_ltN rfl rfl rfl (by first | exact evN_const rfl | exact rfl) (by first | exact evN_const rfl | exact rfl)) ?_)) | (show WalkTo _ _ _ _ (_ :: _) _ _ _; first | (show WalkTo _ _ _ _ (⟨_, .move _, _, _, _, _⟩ :: _) _ _ _; refine walk_t (op_move rfl rfl rfl rfl) ?_) | (show WalkTo _ _ _ _ (⟨_, .binOp .add _ _ _ _, _, _, _, _⟩ :: _) _ _ _; refine walk_t (op_addB rfl rfl rfl (by (first | exact evB_tmp rfl | exact evB_lit rfl rfl)) (by (first | exact evB_tmp rfl | exact evB_lit rfl rfl))) ?_) | (show WalkTo _ _ _ _ (⟨_, .indexAddr _ _ _, _, _, _, _⟩ :: _) _ _ _; refine walk_t (op_idxP rfl rfl rfl rfl (by first | exact evK_const rfl | exact evK_tmp rfl) rfl rfl (by first | omega | decide) off_one) ?_) | (show WalkTo _ _ _ _ (⟨_, .load _ _, _, _, _, _⟩ :: _) _ _ _; refine walk_t (op_load rfl rfl rfl rfl rfl rfl rfl) ?_) | (show WalkTo _ _ _ _ (⟨_, .store _ _ _, _, _, _, _⟩ :: _) _ _ _; refine walk_b (op_store rfl rfl rfl rfl rfl rfl rfl) ?_)) | refine go1 ?_ | refine end_block_other rfl ?_ | refine end_scope (fun _ h => by cases h) ?_ | (refine walk_endD ?_ ?_; (· kernel_rfl)) | refine tri_yesA rfl ?_ | refine tri_noA rfl ?_ | refine tri_trueA rfl ?_ | refine tri_falseA rfl ?_)
        rw [hgj, ← hagj, hsj]
        exact next3 _ (j + 1) (by omega) (by omega) (ent_keep (by repeat (first | exact hasT_nil | refine hasT_cons rfl ?_ | refine hasT_eq rfl (svi (by omega)) ?_)) (by repeat (first | exact hasR_nil | refine hasR_cons rfl ?_)))
      · obtain rfl : j = 8 := by omega
        rw [List.take_of_length_le (by omega), List.drop_of_length_le (by omega), List.append_nil]
        repeat (first | (show Walk1 _ _ _ (_ :: _) _ _; first | (show Walk1 _ _ _ (⟨_, .binOp .lss _ _ _ _, _, _, _, _⟩ :: _) _ _; refine walk1_t (op_ltN rfl rfl rfl (by first | exact evN_const rfl | exact rfl) (by first | exact evN_const rfl | exact rfl)) ?_) | (show Walk1 _ _ _ (⟨_, .load _ _, _, _, _, _⟩ :: _) _ _; refine walk1_t (op_loads rfl rfl rfl rfl rfl rfl rfl rfl) ?_) | (show Walk1 _ _ _ (⟨_, .store _ _ _, _, _, _, _⟩ :: _) _ _; refine walk1_b (op_stores rfl rfl rfl rfl rfl rfl rfl) ?_)) | refine go1 ?_ | refine end_block_other rfl ?_ | refine end_scope (fun _ h => by cases h) ?_ | (refine walk_endD ?_ ?_; (· kernel_rfl)) | refine tri_yesA rfl ?_ | refine tri_noA rfl ?_ | refine tri_trueA rfl ?_ | refine tri_falseA rfl ?_)
        refine end_ret _ (res_cells rfl rfl rfl rfl rfl rfl (sm_vals hal) ag_c) ?_
        exact fin_below fun _ => rfl
end Go.Proofs.Ytihbiejgebmeaaa
namespace Go.Proofs.Ytihbiejgebmeaaa
open Go.RowKit
set_option maxRecDepth 100000
structure HSt where
  h : List (BitVec 32)
  B : List (BitVec 8)
  n : Nat
def HSt.ok (x : HSt) : Prop := x.h.length = 8 ∧ x.B.length = 64
def zer8 : List (BitVec 32) := List.replicate 8 0#32
def HSt.live (x : HSt) : Prop := ¬ (x.h = zer8 ∧ x.n = 0)
/-- How many bytes go into the block that is being filled. -/
def HSt.m (x : HSt) (d : List (BitVec 8)) : Nat := min d.length (64 - x.n % 64)
def HSt.fill (x : HSt) (d : List (BitVec 8)) : List (BitVec 8) := x.B.take (x.n % 64) ++ (d.take (x.m d) ++ x.B.drop (x.n % 64 + x.m d))
def HSt.step (x : HSt) (d : List (BitVec 8)) : HSt := ⟨if (x.n + x.m d) % 64 = 0 then compL x.h (x.fill d) else x.h, x.fill d, x.n + x.m d⟩
def wr : Nat → HSt → List (BitVec 8) → HSt
  | 0, x, _ => x
  | f + 1, x, d => match d with
    | [] => x
    | a :: t => wr f (x.step (a :: t)) ((a :: t).drop (x.m (a :: t)))
def wrD (x : HSt) (d : List (BitVec 8)) : HSt := wr d.length x d
theorem wr_nil (f : Nat) (x : HSt) : wr f x [] = x := by cases f <;> rfl
theorem HSt.m_le (x : HSt) (d : List (BitVec 8)) : x.m d ≤ d.length := Nat.min_le_left _ _
theorem HSt.m_pos (x : HSt) (d : List (BitVec 8)) (h : 0 < d.length) : 0 < x.m d := by unfold HSt.m; omega
theorem wr_more : ∀ (f : Nat) (x : HSt) (d : List (BitVec 8)), d.length ≤ f → wr f x d = wrD x d := by
  intro f
  induction f using Nat.strongRecOn with
  | _ f ih =>
    intro x d hd
    cases d with
    | nil => rw [wr_nil]; rfl
    | cons a t =>
      have hp := x.m_pos (a :: t) (by simp)
      have hl : ((a :: t).drop (x.m (a :: t))).length ≤ t.length := by rw [List.length_drop]; simp; omega
      match f, hd with
      | f + 1, hd =>
        unfold wrD
        simp only [List.length_cons] at hd ⊢
        simp only [wr]
        rw [ih f (by omega) _ _ (by omega)]
        rcases Nat.lt_or_ge t.length (f + 1) with h | h
        · rw [ih t.length h _ _ hl]
        · omega
theorem wrD_nil (x : HSt) : wrD x [] = x := rfl
theorem wrD_step (x : HSt) (d : List (BitVec 8)) (h : 0 < d.length) : wrD (x.step d) (d.drop (x.m d)) = wrD x d := by
  cases d with
  | nil => simp at h
  | cons a t =>
    have hp := x.m_pos (a :: t) (by simp)
    show _ = wr (t.length + 1) x (a :: t)
    simp only [wr]
    rw [wr_more _ _ _ (by rw [List.length_drop]; simp; omega)]
theorem HSt.fill_length (x : HSt) (d : List (BitVec 8)) (h : x.B.length = 64) : (x.fill d).length = 64 := by
  unfold HSt.fill HSt.m
  simp [h]
  omega
theorem compL_length (h : List (BitVec 32)) (B : List (BitVec 8)) (hh : h.length = 8) : (compL h B).length = 8 := compK_length _ _ _ hh
theorem HSt.step_ok (x : HSt) (d : List (BitVec 8)) (h : x.ok) : (x.step d).ok := by
  refine ⟨?_, x.fill_length d h.2⟩
  show (if (x.n + x.m d) % 64 = 0 then compL x.h (x.fill d) else x.h).length = 8
  split
  · exact compL_length _ _ h.1
  · exact h.1
theorem wr_ok : ∀ (f : Nat) (x : HSt) (d : List (BitVec 8)), x.ok → (wr f x d).ok
  | 0, x, d, h => h
  | f + 1, x, [], h => h
  | f + 1, x, a :: t, h => wr_ok f _ _ (x.step_ok _ h)
theorem wrD_ok (x : HSt) (d : List (BitVec 8)) (h : x.ok) : (wrD x d).ok := wr_ok _ _ _ h
theorem wr_n : ∀ (f : Nat) (x : HSt) (d : List (BitVec 8)), d.length ≤ f → (wr f x d).n = x.n + d.length
  | 0, x, d, h => by have : d.length = 0 := by omega
                     simp [wr, this]
  | f + 1, x, [], h => rfl
  | f + 1, x, a :: t, h => by
    have hp := x.m_pos (a :: t) (by simp)
    have hm := x.m_le (a :: t)
    simp only [wr]
    rw [wr_n f _ _ (by rw [List.length_drop]; simp at h ⊢; omega)]
    show x.n + x.m (a :: t) + _ = _
    rw [List.length_drop]
    omega
theorem wrD_n (x : HSt) (d : List (BitVec 8)) : (wrD x d).n = x.n + d.length := wr_n _ _ _ (Nat.le_refl _)
def wrAll (x : HSt) (ds : List (List (BitVec 8))) : HSt := ds.foldl wrD x
theorem wrAll_take (x : HSt) (ds : List (List (BitVec 8))) (i : Nat) (d : List (BitVec 8)) (h : ds[i]? = some d) : wrAll x (ds.take (i + 1)) = wrD (wrAll x (ds.take i)) d := by
  rw [List.take_add_one, h]; simp [wrAll]
theorem wrAll_ok (x : HSt) : ∀ (ds : List (List (BitVec 8))), x.ok → (wrAll x ds).ok := by
  intro ds
  induction ds generalizing x with
  | nil => exact id
  | cons d ds ih => intro h; exact ih _ (wrD_ok x d h)
theorem wrAll_n (x : HSt) (ds : List (List (BitVec 8))) : (wrAll x ds).n = x.n + ds.flatten.length := by
  induction ds generalizing x with
  | nil => rfl
  | cons d ds ih =>
    show (wrAll (wrD x d) ds).n = _
    rw [ih, wrD_n]
    simp
    omega
/-! ### what it stands for -/
def iv8 : List (BitVec 32) := [0x6a09e667#32, 0xbb67ae85#32, 0x3c6ef372#32, 0xa54ff53a#32, 0x510e527f#32, 0x9b05688c#32, 0x1f83d9ab#32, 0x5be0cd19#32]
/-- k blocks of a message, taken in. -/
def fB (msg : List (BitVec 8)) : Nat → List (BitVec 32)
  | 0 => iv8
  | k + 1 => compL (fB msg k) ((msg.drop (64 * k)).take 64)
theorem fB_app (msg e : List (BitVec 8)) (k : Nat) (h : 64 * k ≤ msg.length) : fB (msg ++ e) k = fB msg k := by
  induction k with
  | zero => rfl
  | succ k ih =>
    rw [fB, fB, ih (by omega), List.drop_append_of_le_length (by omega), List.take_append_of_le_length (by rw [List.length_drop]; omega)]
structure Good (x : HSt) (msg : List (BitVec 8)) : Prop where
  ok : x.ok
  n : x.n = msg.length
  h : x.h = fB msg (msg.length / 64)
  B : x.B.take (msg.length % 64) = msg.drop (64 * (msg.length / 64))
theorem Good.live {x : HSt} {msg : List (BitVec 8)} (h : Good x msg) : x.live := by
  rintro ⟨h1, h2⟩
  have hm : msg = [] := List.eq_nil_of_length_eq_zero (by rw [← h.n]; exact h2)
  subst hm
  have : x.h = iv8 := h.h
  rw [h1] at this
  exact absurd this (by decide)
theorem Good.step {x : HSt} {msg : List (BitVec 8)} (h : Good x msg) (d : List (BitVec 8)) (hd : 0 < d.length) : Good (x.step d) (msg ++ d.take (x.m d)) := by
  have hB := h.ok.2
  have hn := h.n
  have hm := x.m_le d
  have hr : x.m d = min d.length (64 - msg.length % 64) := by unfold HSt.m; rw [hn]
  have hl : (msg ++ d.take (x.m d)).length = msg.length + x.m d := by rw [List.length_append, List.length_take]; omega
  have hq : 64 * (msg.length / 64) ≤ msg.length := by omega
  have hfl : x.fill d = (msg ++ d.take (x.m d)).drop (64 * (msg.length / 64)) ++ x.B.drop (msg.length % 64 + x.m d) := by
    unfold HSt.fill
    rw [hn, h.B, List.drop_append_of_le_length hq, List.append_assoc]
  have hdl : ((msg ++ d.take (x.m d)).drop (64 * (msg.length / 64))).length = msg.length % 64 + x.m d := by rw [List.length_drop, hl]; omega
  refine ⟨x.step_ok d h.ok, ?_, ?_, ?_⟩
  · show x.n + x.m d = _
    rw [hl, hn]
  · show (if (x.n + x.m d) % 64 = 0 then compL x.h (x.fill d) else x.h) = _
    rw [hl, hn]
    split
    · rename_i h0
      have hmz := x.m_pos d hd
      have hbn : x.B.drop (msg.length % 64 + x.m d) = [] := List.drop_of_length_le (by omega)
      rw [show (msg.length + x.m d) / 64 = msg.length / 64 + 1 by omega, fB, fB_app _ _ _ hq, ← h.h, hfl, hbn, List.append_nil]
      have h64 : ((msg ++ d.take (x.m d)).drop (64 * (msg.length / 64))).take 64 = (msg ++ d.take (x.m d)).drop (64 * (msg.length / 64)) := List.take_of_length_le (by omega)
      rw [h64]
    · rename_i h0
      rw [show (msg.length + x.m d) / 64 = msg.length / 64 by omega, fB_app _ _ _ hq]
      exact h.h
  · show (x.fill d).take _ = _
    rw [hl, hfl]
    by_cases hz : (msg.length + x.m d) % 64 = 0
    · rw [hz, List.take_zero, List.drop_of_length_le (by rw [hl]; omega)]
    · rw [show (msg.length + x.m d) % 64 = msg.length % 64 + x.m d by omega, show (msg.length + x.m d) / 64 = msg.length / 64 by omega, List.take_append_of_le_length (by omega), List.take_of_length_le (by omega)]
theorem good_wr : ∀ (f : Nat) {x : HSt} {msg : List (BitVec 8)} (d : List (BitVec 8)), d.length ≤ f → Good x msg → Good (wr f x d) (msg ++ d)
  | 0, x, msg, d, h, hg => by
    have : d = [] := List.eq_nil_of_length_eq_zero (by omega)
    subst this
    rw [List.append_nil]; exact hg
  | f + 1, x, msg, [], h, hg => by rw [List.append_nil]; exact hg
  | f + 1, x, msg, a :: t, h, hg => by
    have hp := x.m_pos (a :: t) (by simp)
    have := good_wr f ((a :: t).drop (x.m (a :: t))) (by rw [List.length_drop]; simp at h ⊢; omega) (hg.step (a :: t) (by simp))
    rw [List.append_assoc, List.take_append_drop] at this
    exact this
theorem Good.wrD {x : HSt} {msg : List (BitVec 8)} (h : Good x msg) (d : List (BitVec 8)) : Good (wrD x d) (msg ++ d) := good_wr _ d (Nat.le_refl _) h
theorem Good.wrAll {x : HSt} : ∀ {ds : List (List (BitVec 8))} {msg : List (BitVec 8)}, Good x msg → Good (wrAll x ds) (msg ++ ds.flatten) := by
  intro ds
  induction ds generalizing x with
  | nil => intro msg h; simpa [Go.Proofs.Ytihbiejgebmeaaa.wrAll] using h
  | cons d ds ih =>
    intro msg h
    have := ih (h.wrD d)
    simpa [Go.Proofs.Ytihbiejgebmeaaa.wrAll] using this
def new0 : HSt := ⟨iv8, List.replicate 64 0#8, 0⟩
theorem good_new : Good new0 [] := ⟨⟨rfl, rfl⟩, rfl, rfl, rfl⟩
/-! ### what stands behind a message, and its sum -/
def be8L (x : BitVec 64) : List (BitVec 8) := (List.range 8).map fun j => (x >>> (8 * (7 - j))).setWidth 8
def padL (n : Nat) : List (BitVec 8) := (128#8 :: List.replicate ((119 - n % 64) % 64) 0#8) ++ be8L (BitVec.ofNat 64 n <<< 3)
theorem padL_length (n : Nat) : (padL n).length = 1 + (119 - n % 64) % 64 + 8 := by simp [padL, be8L]; omega
def dgL (h : List (BitVec 32)) : List (BitVec 8) := (List.range 32).map fun i => (gt h (i / 4) >>> (24 - 8 * (i % 4))).setWidth 8
theorem dgL_length (h : List (BitVec 32)) : (dgL h).length = 32 := by simp [dgL]
def shaL (msg : List (BitVec 8)) : List (BitVec 8) := dgL (fB (msg ++ padL msg.length) ((msg ++ padL msg.length).length / 64))
theorem shaL_length (msg : List (BitVec 8)) : (shaL msg).length = 32 := dgL_length _
theorem Good.sum {x : HSt} {msg : List (BitVec 8)} (h : Good x msg) : dgL (Go.Proofs.Ytihbiejgebmeaaa.wrD x (padL x.n)).h = shaL msg := by
  rw [(h.wrD (padL x.n)).h, h.n]; rfl
end Go.Proofs.Ytihbiejgebmeaaa
