/- What stands behind a message, walked. No condition. The methods of a hash, walked. No condition. The sum of a hash, walked. No condition. -/
import Derived.Test.YtihbiejgebmeaaaShaBC
namespace Go.Proofs.Ytihbiejgebmeaaa
open Go.RowKit
set_option maxRecDepth 100000
set_option maxHeartbeats 4000000
attribute [local irreducible] Calls Walk1 WalkTo Tri EndA
def padI (x : BitVec 64) (Z i : Nat) : List (BitVec 8) := (128#8 :: List.replicate Z 0#8) ++ (List.replicate (8 - i) 0#8 ++ (be8L x).drop (8 - i))
theorem padI_zero (x : BitVec 64) (Z L : Nat) (h : L = 1 + Z + 8) : (List.replicate L 0#8).set 0 (BitVec.ofInt 8 128) = padI x Z 0 := by
  subst h
  rw [show 1 + Z + 8 = (Z + 8) + 1 by omega, List.replicate_succ, List.set_cons_zero]
  unfold padI
  rw [show (be8L x).drop (8 - 0) = [] from rfl, List.append_nil, List.cons_append, show 8 - 0 = 8 from rfl, List.replicate_append_replicate]
  rfl
theorem padI_length (x : BitVec 64) (Z i : Nat) (h : i ≤ 8) : (padI x Z i).length = 1 + Z + 8 := by simp [padI, be8L]; omega
theorem padI_set (x : BitVec 64) (Z i : Nat) (h : i < 8) : (padI x Z i).set (1 + Z + 8 - 1 - i) ((x >>> (8 * i)).setWidth 8) = padI x Z (i + 1) := by
  unfold padI
  rw [List.set_append_right _ _ (by simp; omega)]
  congr 1
  rw [show 1 + Z + 8 - 1 - i - (128#8 :: List.replicate Z 0#8).length = 7 - i by simp; omega]
  match i, h with
  | 0, _ => rfl
  | 1, _ => rfl
  | 2, _ => rfl
  | 3, _ => rfl
  | 4, _ => rfl
  | 5, _ => rfl
  | 6, _ => rfl
  | 7, _ => rfl
theorem padI_all (x : BitVec 64) (Z : Nat) : padI x Z 8 = (128#8 :: List.replicate Z 0#8) ++ be8L x := rfl
theorem shaPad_max (z : Int) (n : Nat) (hz : max z 0 = (n : Int)) (hn : n < 9223372036854775808) (w : World) :
    Calls Try.prog 41 #[.int .i64 z] w (RetOwn w 5 1 (1 + (119 - n % 64) % 64 + 8) (valsL .u8 (padL n))) := by
  unfold padL
  refine calls_tri Try.func41 rfl Try.ntmps41 rfl ?_
  iterate 11 (try (first | (show Walk1 _ _ _ (_ :: _) _ _; first | (show Walk1 _ _ _ (⟨_, .move _, _, _, _, _⟩ :: _) _ _; refine walk1_t (op_move rfl rfl rfl rfl) ?_) | (show Walk1 _ _ _ (⟨_, .assign _, _, _, _, _⟩ :: _) _ _; refine walk1_t (op_assign rfl rfl rfl rfl) ?_) | (show Walk1 _ _ _ (⟨_, .call ⟨.builtin .max, _, _⟩, _, _, _, _⟩ :: _) _ _; refine walk1_t (op_maxI rfl rfl rfl) ?_)) | refine go1 ?_ | refine end_block_other rfl ?_ | refine end_scope (fun _ h => by cases h) ?_ | (refine walk_endD ?_ ?_; (· kernel_rfl)) | refine tri_yesA rfl ?_ | refine tri_noA rfl ?_ | refine tri_trueA rfl ?_ | refine tri_falseA rfl ?_))
  refine end_keep [(0, SV.c (.int .i64 ((n : Nat) : Int)))] [] (by repeat (first | exact hasT_nil | refine hasT_cons rfl ?_ | refine hasT_eq rfl (svi (by omega)) ?_)) (by repeat (first | exact hasR_nil | refine hasR_cons rfl ?_)) ?_
  have hZ : (119 - n % 64) % 64 < 64 := Nat.mod_lt _ (by omega)
  repeat (first | (show Walk1 _ _ _ (_ :: _) _ _; first | (show Walk1 _ _ _ (⟨_, .move _, _, _, _, _⟩ :: _) _ _; first | refine walk1_t (op_moveN rfl rfl rfl rfl) ?_ | refine walk1_t (op_move rfl rfl rfl rfl) ?_) | (show Walk1 _ _ _ (⟨_, .assign _, _, _, _, _⟩ :: _) _ _; refine walk1_t (op_assign rfl rfl rfl rfl) ?_) | (show Walk1 _ _ _ (⟨_, .binOp .add _ _ _ _, _, _, _, _⟩ :: _) _ _; refine walk1_t (op_addN rfl rfl rfl (by first | exact evN_const rfl | exact rfl) (by first | exact evN_const rfl | exact rfl) (by omega)) ?_) | (show Walk1 _ _ _ (⟨_, .binOp .sub _ _ _ _, _, _, _, _⟩ :: _) _ _; refine walk1_t (op_subN rfl rfl rfl (by first | exact evN_const rfl | exact rfl) (by first | exact evN_const rfl | exact rfl) (by omega)) ?_) | (show Walk1 _ _ _ (⟨_, .binOp .rem _ _ _ _, _, _, _, _⟩ :: _) _ _; refine walk1_t (op_remN rfl rfl rfl (by first | exact evN_const rfl | exact rfl) (by first | exact evN_const rfl | exact rfl) (by omega)) ?_) | (show Walk1 _ _ _ (⟨_, .indexAddr _ _ _, _, _, _, _⟩ :: _) _ _; refine walk1_t (op_idxV rfl rfl rfl rfl rfl (by first | exact evK_const rfl | exact evK_tmp rfl) rfl rfl (by first | omega | decide) off_one) ?_) | (show Walk1 _ _ _ (⟨_, .store _ _ _, _, _, _, _⟩ :: _) _ _; refine walk1_b (op_storeV rfl rfl rfl rfl rfl rfl rfl rfl rfl (by first | omega | decide) (valsL_setz rfl)) ?_) | (show Walk1 _ _ _ (⟨_, .makeSlice _ _ _, _, _, _, _⟩ :: _) _ _; refine walk1_n (op_makeB (m := 8) rfl rfl rfl rfl (by first | exact evN_const rfl | exact rfl) (by first | exact evN_const rfl | exact rfl) rfl rfl rfl rfl (by first | omega | decide)) (by kernel_rfl) ?_)) | refine go1 ?_ | refine end_block_other rfl ?_ | refine end_scope (fun _ h => by cases h) ?_ | (refine walk_endD ?_ ?_; (· kernel_rfl)) | refine tri_yesA rfl ?_ | refine tri_noA rfl ?_ | refine tri_trueA rfl ?_ | refine tri_falseA rfl ?_)
  generalize (119 - n % 64) % 64 = Z at *
  have h0 := padI_zero (BitVec.ofNat 64 n <<< 3) Z (1 + Z + 8) rfl
  rw [h0]
  clear h0
  rw [← padI_all]
  have hl := padI_length (BitVec.ofNat 64 n <<< 3) Z
  have hs := padI_set (BitVec.ofNat 64 n <<< 3) Z
  generalize hP : padI (BitVec.ofNat 64 n <<< 3) Z = P at *
  refine tri_loop (X := Nat) (fun i => ⟨[(16, SV.c (.int .i64 ((i : Nat) : Int))), (0, SV.c (.int .i64 ((n : Nat) : Int))), (3, .v 13)], [(13, some (.own 13 5 1 (1 + Z + 8) (valsL .u8 (P i))))]⟩)
    (fun i => i ≤ 8) (fun i => 8 - i) 0 (by omega) (ent_keep (by repeat (first | exact hasT_nil | refine hasT_cons rfl ?_ | refine hasT_eq rfl (svi (by omega)) ?_)) (by repeat (first | exact hasR_nil | refine hasR_cons rfl ?_))) ?_
  intro i hi K next
  by_cases h1 : i < 8
  · have hli := hl i hi
    have hsi := hs i h1
    generalize hM : P i = M at *
    repeat (first | (show Walk1 _ _ _ (_ :: _) _ _; first | (show Walk1 _ _ _ (⟨_, .move _, _, _, _, _⟩ :: _) _ _; refine walk1_t (op_move rfl rfl rfl rfl) ?_) | (show Walk1 _ _ _ (⟨_, .assign _, _, _, _, _⟩ :: _) _ _; refine walk1_t (op_assign rfl rfl rfl rfl) ?_) | (show Walk1 _ _ _ (⟨_, .binOp .add _ _ _ _, _, _, _, _⟩ :: _) _ _; refine walk1_t (op_addN rfl rfl rfl (by first | exact evN_const rfl | exact rfl) (by first | exact evN_const rfl | exact rfl) (by omega)) ?_) | (show Walk1 _ _ _ (⟨_, .binOp .sub _ _ _ _, _, _, _, _⟩ :: _) _ _; refine walk1_t (op_subN rfl rfl rfl (by first | exact evN_const rfl | exact rfl) (by first | exact evN_const rfl | exact rfl) (by omega)) ?_) | (show Walk1 _ _ _ (⟨_, .binOp .mul _ _ _ _, _, _, _, _⟩ :: _) _ _; refine walk1_t (op_mulN rfl rfl rfl (by first | exact evN_const rfl | exact rfl) (by first | exact evN_const rfl | exact rfl) (by omega)) ?_) | (show Walk1 _ _ _ (⟨_, .binOp .lss _ _ _ _, _, _, _, _⟩ :: _) _ _; refine walk1_t (op_ltN rfl rfl rfl (by first | exact evN_const rfl | exact rfl) (by first | exact evN_const rfl | exact rfl)) ?_) | (show Walk1 _ _ _ (⟨_, .binOp .shr _ _ _ _, _, _, _, _⟩ :: _) _ _; refine walk1_t (op_shrB rfl rfl rfl (by (first | exact evB_tmp rfl | exact evB_lit rfl rfl)) (by first | exact evK_const rfl | exact evK_tmp rfl)) ?_) | (show Walk1 _ _ _ (⟨_, .binOp .shl _ _ _ _, _, _, _, _⟩ :: _) _ _; refine walk1_t (op_shlB rfl rfl rfl (by (first | exact evB_tmp rfl | exact evB_lit rfl rfl)) (by first | exact evK_const rfl | exact evK_tmp rfl)) ?_) | (show Walk1 _ _ _ (⟨_, .indexAddr _ _ _, _, _, _, _⟩ :: _) _ _; refine walk1_t (op_idxV rfl rfl rfl rfl rfl (by first | exact evK_const rfl | exact evK_tmp rfl) rfl rfl (by first | omega | decide) off_one) ?_) | (show Walk1 _ _ _ (⟨_, .store _ _ _, _, _, _, _⟩ :: _) _ _; refine walk1_b (op_storeV rfl rfl rfl rfl rfl rfl rfl rfl rfl (by first | omega | decide) valsL_set) ?_) | (show Walk1 _ _ _ (⟨_, .convert _ _ _, _, _, _, _⟩ :: _) _ _; first | refine walk1_t (op_convNB rfl rfl rfl (by first | exact evN_const rfl | exact rfl) rfl rfl) ?_ | refine walk1_t (op_convBB rfl rfl rfl (by (first | exact evB_tmp rfl | exact evB_lit rfl rfl)) rfl rfl) ?_) | (show Walk1 _ _ _ (⟨_, .call ⟨.builtin .len, _, _⟩, _, _, _, _⟩ :: _) _ _; refine walk1_t (op_lenV rfl rfl rfl rfl) ?_)) | refine go1 ?_ | refine end_block_other rfl ?_ | refine end_scope (fun _ h => by cases h) ?_ | (refine walk_endD ?_ ?_; (· kernel_rfl)) | refine tri_yesA rfl ?_ | refine tri_noA rfl ?_ | refine tri_trueA rfl ?_ | refine tri_falseA rfl ?_)
    rw [hsi]
    exact next _ (i + 1) (by omega) (by omega) (ent_keep (by repeat (first | exact hasT_nil | refine hasT_cons rfl ?_ | refine hasT_eq rfl (svi (by omega)) ?_)) (by repeat (first | exact hasR_nil | refine hasR_cons rfl ?_)))
  · obtain rfl : i = 8 := by omega
    repeat (first | (show Walk1 _ _ _ (_ :: _) _ _; first | (show Walk1 _ _ _ (⟨_, .move _, _, _, _, _⟩ :: _) _ _; refine walk1_t (op_move rfl rfl rfl rfl) ?_) | (show Walk1 _ _ _ (⟨_, .assign _, _, _, _, _⟩ :: _) _ _; refine walk1_t (op_assign rfl rfl rfl rfl) ?_) | (show Walk1 _ _ _ (⟨_, .binOp .lss _ _ _ _, _, _, _, _⟩ :: _) _ _; refine walk1_t (op_ltN rfl rfl rfl (by first | exact evN_const rfl | exact rfl) (by first | exact evN_const rfl | exact rfl)) ?_)) | refine go1 ?_ | refine end_block_other rfl ?_ | refine end_scope (fun _ h => by cases h) ?_ | (refine walk_endD ?_ ?_; (· kernel_rfl)) | refine tri_yesA rfl ?_ | refine tri_noA rfl ?_ | refine tri_trueA rfl ?_ | refine tri_falseA rfl ?_)
    refine end_ret (.v 13) (res_tmp rfl rfl) ?_
    exact fin_own rfl
theorem shaPad_any (n : Nat) (hn : n < 9223372036854775808) (w : World) :
    Calls Try.prog 41 #[.int .i64 (n : Int)] w (RetOwn w 5 1 (1 + (119 - n % 64) % 64 + 8) (valsL .u8 (padL n))) := shaPad_max n n (by omega) hn w
end Go.Proofs.Ytihbiejgebmeaaa
namespace Go.Proofs.Ytihbiejgebmeaaa
open Go.RowKit
set_option maxRecDepth 100000
set_option maxHeartbeats 4000000
attribute [local irreducible] Calls Walk1 WalkTo Tri EndA
def hashA (x : HSt) : SA := (SA.c (vals .u32 x.h)).app ((SA.c (vals .u8 x.B)).app (SA.l [SV.c (.int .i64 ((x.n : Nat) : Int))]))
def hashC (x : HSt) : Array Value := (hashA x).den fun _ => ⟨0, 0, undef⟩
@[simp] theorem setsL_nil {m : Nat} (z : List (BitVec m)) : setsL z [] = z := rfl
theorem hashNone_any (x : HSt) (w : World) (b : Nat) (hB : Blk w b (hashC x) 109) (hx : x.ok) (r : Bool) (hr : r = true ↔ ¬ x.live) :
    Calls Try.prog 39 #[.pointer (some ⟨b, 0, none⟩)] w (RetP w b 109 (hashC x) (.bool r)) := by
  obtain ⟨h, B, n⟩ := x
  obtain ⟨hh, hl⟩ := hx
  change h.length = 8 at hh
  change B.length = 64 at hl
  have hr : r = decide (h = zer8 ∧ n = 0) := by
    rw [Bool.eq_iff_iff, hr, decide_eq_true_eq]
    unfold HSt.live
    exact Classical.not_not
  subst hr
  have hz0 : setsL (List.replicate 8 0#32) [] = zer8 := rfl
  by_cases hz : h = zer8
  · have hd : decide (h = zer8 ∧ n = 0) = decide (n = 0) := by simp [hz]
    rw [hd]
    have hf : (h == setsL (List.replicate 8 0#32) []) = true := by rw [hz0, hz]; simp
    clear hd hr hz hz0
    refine calls_triP (b := b) (109) (hashA ⟨h, B, n⟩) Try.func39 rfl Try.ntmps39 rfl rfl (hB) (fun _ => rfl) ?_
    simp only [hashA]
    repeat (first | (show Walk1 _ _ _ (_ :: _) _ _; first | (show Walk1 _ _ _ (⟨_, _, _, _, _, some _⟩ :: _) _ _; refine walk1_yes rfl rfl (by first | exact decide_eq_true (by omega) | exact decide_eq_false (by omega) | rfl | (show _ = true; with_reducible assumption) | (show _ = false; with_reducible assumption) | (simp <;> fail) | omega) ?_) | (show Walk1 _ _ _ (⟨_, .move _, _, _, _, _⟩ :: _) _ _; refine walk1_t (op_move rfl rfl rfl rfl) ?_) | (show Walk1 _ _ _ (⟨_, .assign _, _, _, _, _⟩ :: _) _ _; refine walk1_t (op_assign rfl rfl rfl rfl) ?_) | (show Walk1 _ _ _ (⟨_, .binOp .eql _ _ _ _, _, _, _, _⟩ :: _) _ _; first | refine walk1_t (op_eqN rfl rfl rfl (by first | exact evN_const rfl | exact rfl) (by first | exact evN_const rfl | exact rfl)) ?_ | refine walk1_t (op_eqA rfl rfl rfl rfl rfl rfl rfl rfl rfl (by first | omega | (simp; omega) | (simp <;> fail) | omega) (by first | omega | (simp; omega) | (simp <;> fail) | omega)) ?_ | refine walk1_t (op_eqNil rfl rfl rfl rfl rfl rfl) ?_) | (show Walk1 _ _ _ (⟨_, .pick _ _ _, _, _, _, _⟩ :: _) _ _; first | refine walk1_t (op_pickY rfl rfl rfl rfl (by first | exact decide_eq_true (by omega) | exact decide_eq_false (by omega) | rfl | (show _ = true; with_reducible assumption) | (show _ = false; with_reducible assumption) | (simp <;> fail) | omega) rfl) ?_ | refine walk1_t (op_pickN rfl rfl rfl rfl (by first | exact decide_eq_true (by omega) | exact decide_eq_false (by omega) | rfl | (show _ = true; with_reducible assumption) | (show _ = false; with_reducible assumption) | (simp <;> fail) | omega) rfl) ?_) | (show Walk1 _ _ _ (⟨_, .load _ _, _, _, _, _⟩ :: _) _ _; first | refine walk1_t (op_load rfl rfl rfl rfl rfl rfl rfl) ?_ | refine walk1_t (op_loadsM rfl rfl rfl rfl rfl rfl rfl rfl) ?_) | (show Walk1 _ _ _ (⟨_, .nilCheck _, _, _, _, _⟩ :: _) _ _; refine walk1_t (op_nilP rfl rfl rfl rfl) ?_) | (show Walk1 _ _ _ (⟨_, .fieldAddr _ _ _, _, _, _, _⟩ :: _) _ _; refine walk1_t (op_fldT rfl rfl rfl rfl rfl rfl off_zero) ?_) | (show Walk1 _ _ _ (⟨_, .build _ _, _, _, _, _⟩ :: _) _ _; refine walk1_t (op_buildV rfl rfl rfl rfl rfl rfl (by repeat (first | exact evl_nil | (apply evl_cons; (· (first | exact evB_tmp rfl | exact evB_lit rfl rfl))))) rfl) ?_)) | refine go1 ?_ | refine end_block_other rfl ?_ | refine end_scope (fun _ h => by cases h) ?_ | (refine walk_endD ?_ ?_; (· kernel_rfl)) | refine tri_yesA rfl ?_ | refine tri_noA rfl ?_ | refine tri_trueA rfl ?_ | refine tri_falseA rfl ?_)
    refine end_ret _ (res_tmp rfl rfl) ?_
    exact fin_obj rfl rfl (fun _ => rfl) (fun _ => rfl)
  · have hd : decide (h = zer8 ∧ n = 0) = false := by simp [hz]
    rw [hd]
    have hf : (h == setsL (List.replicate 8 0#32) []) = false := by rw [hz0]; simp [hz]
    clear hd hr hz hz0
    refine calls_triP (b := b) (109) (hashA ⟨h, B, n⟩) Try.func39 rfl Try.ntmps39 rfl rfl (hB) (fun _ => rfl) ?_
    simp only [hashA]
    repeat (first | (show Walk1 _ _ _ (_ :: _) _ _; first | (show Walk1 _ _ _ (⟨_, _, _, _, _, some _⟩ :: _) _ _; first | refine walk1_yes rfl rfl (by first | exact decide_eq_true (by omega) | exact decide_eq_false (by omega) | rfl | (show _ = true; with_reducible assumption) | (show _ = false; with_reducible assumption) | (simp <;> fail) | omega) ?_ | refine walk1_no rfl rfl (by first | exact decide_eq_true (by omega) | exact decide_eq_false (by omega) | rfl | (show _ = true; with_reducible assumption) | (show _ = false; with_reducible assumption) | (simp <;> fail) | omega) rfl ?_) | (show Walk1 _ _ _ (⟨_, .move _, _, _, _, _⟩ :: _) _ _; refine walk1_t (op_move rfl rfl rfl rfl) ?_) | (show Walk1 _ _ _ (⟨_, .assign _, _, _, _, _⟩ :: _) _ _; refine walk1_t (op_assign rfl rfl rfl rfl) ?_) | (show Walk1 _ _ _ (⟨_, .binOp .eql _ _ _ _, _, _, _, _⟩ :: _) _ _; first | refine walk1_t (op_eqA rfl rfl rfl rfl rfl rfl rfl rfl rfl (by first | omega | (simp; omega) | (simp <;> fail) | omega) (by first | omega | (simp; omega) | (simp <;> fail) | omega)) ?_ | refine walk1_t (op_eqNil rfl rfl rfl rfl rfl rfl) ?_) | (show Walk1 _ _ _ (⟨_, .pick _ _ _, _, _, _, _⟩ :: _) _ _; refine walk1_t (op_pickN rfl rfl rfl rfl (by first | exact decide_eq_true (by omega) | exact decide_eq_false (by omega) | rfl | (show _ = true; with_reducible assumption) | (show _ = false; with_reducible assumption) | (simp <;> fail) | omega) rfl) ?_) | (show Walk1 _ _ _ (⟨_, .load _ _, _, _, _, _⟩ :: _) _ _; refine walk1_t (op_loadsM rfl rfl rfl rfl rfl rfl rfl rfl) ?_) | (show Walk1 _ _ _ (⟨_, .nilCheck _, _, _, _, _⟩ :: _) _ _; refine walk1_t (op_nilP rfl rfl rfl rfl) ?_) | (show Walk1 _ _ _ (⟨_, .fieldAddr _ _ _, _, _, _, _⟩ :: _) _ _; refine walk1_t (op_fldT rfl rfl rfl rfl rfl rfl off_zero) ?_) | (show Walk1 _ _ _ (⟨_, .build _ _, _, _, _, _⟩ :: _) _ _; refine walk1_t (op_buildV rfl rfl rfl rfl rfl rfl (by repeat (first | exact evl_nil | (apply evl_cons; (· (first | exact evB_tmp rfl | exact evB_lit rfl rfl))))) rfl) ?_)) | refine go1 ?_ | refine end_block_other rfl ?_ | refine end_scope (fun _ h => by cases h) ?_ | (refine walk_endD ?_ ?_; (· kernel_rfl)) | refine tri_yesA rfl ?_ | refine tri_noA rfl ?_ | refine tri_trueA rfl ?_ | refine tri_falseA rfl ?_)
    refine end_ret _ (res_tmp rfl rfl) ?_
    exact fin_obj rfl rfl (fun _ => rfl) (fun _ => rfl)
theorem iv_set : setsL (List.replicate 8 0#32) [(0, BitVec.ofInt 32 1779033703), (1, BitVec.ofInt 32 3144134277), (2, BitVec.ofInt 32 1013904242), (3, BitVec.ofInt 32 2773480762), (4, BitVec.ofInt 32 1359893119), (5, BitVec.ofInt 32 2600822924), (6, BitVec.ofInt 32 528734635), (7, BitVec.ofInt 32 1541459225)] = iv8 := by rfl
theorem shaNew_any (w : World) : Calls Try.prog 23 #[] w (RetN w 109 (hashC new0)) := by
  have hi : iv8.length = 8 := rfl
  unfold new0
  refine calls_tri Try.func23 rfl Try.ntmps23 rfl ?_
  iterate 8 (try (first | (show Walk1 _ _ _ (_ :: _) _ _; first | (show Walk1 _ _ _ (⟨_, .assign _, _, _, _, _⟩ :: _) _ _; refine walk1_t (op_assign rfl rfl rfl rfl) ?_) | (show Walk1 _ _ _ (⟨_, .build _ _, _, _, _, _⟩ :: _) _ _; refine walk1_t (op_buildV rfl rfl rfl rfl rfl rfl (by repeat (first | exact evl_nil | (apply evl_cons; (· (first | exact evB_tmp rfl | exact evB_lit rfl rfl))))) rfl) ?_)) | refine go1 ?_ | refine end_block_other rfl ?_ | refine end_scope (fun _ h => by cases h) ?_ | (refine walk_endD ?_ ?_; (· kernel_rfl)) | refine tri_yesA rfl ?_ | refine tri_noA rfl ?_ | refine tri_trueA rfl ?_ | refine tri_falseA rfl ?_))
  rw [iv_set]
  generalize iv8 = I at *
  repeat (first | (show Walk1 _ _ _ (_ :: _) _ _; first | (show Walk1 _ _ _ (⟨_, .assign _, _, _, _, _⟩ :: _) _ _; refine walk1_t (op_assign rfl rfl rfl rfl) ?_) | (show Walk1 _ _ _ (⟨_, .box _ _, _, _, _, _⟩ :: _) _ _; refine walk1_n (op_box rfl rfl rfl rfl rfl) (by kernel_rfl) ?_) | (show Walk1 _ _ _ (⟨_, .build _ _, _, _, _, _⟩ :: _) _ _; refine walk1_t (op_buildS rfl rfl rfl rfl) ?_)) | refine go1 ?_ | refine end_block_other rfl ?_ | refine end_scope (fun _ h => by cases h) ?_ | (refine walk_endD ?_ ?_; (· kernel_rfl)) | refine tri_yesA rfl ?_ | refine tri_noA rfl ?_ | refine tri_trueA rfl ?_ | refine tri_falseA rfl ?_)
  refine end_ret _ (res_tmp rfl rfl) ?_
  exact fin_newblk rfl (fun _ => rfl)
theorem flat_take' (ds : List (List (BitVec 8))) (i : Nat) (d : List (BitVec 8)) (h : ds[i]? = some d) : (ds.take (i + 1)).flatten.length = (ds.take i).flatten.length + d.length := by
  rw [List.take_add_one, h]; simp
theorem flat_le' (ds : List (List (BitVec 8))) (i : Nat) : (ds.take i).flatten.length ≤ ds.flatten.length := by
  conv => rhs; rw [← List.take_append_drop i ds, List.flatten_append, List.length_append]
  omega
theorem hashWrite_any (x : HSt) (ds : List (List (BitVec 8))) (v : Value) (w : World) (b : Nat) (hB : Blk w b (hashC x) 109) (hx : x.ok) (hlv : x.live) (hv : SlcX w [b] v ds) (hn : x.n + ds.flatten.length ≤ 1099511627776) (hdl : ds.length ≤ 1099511627776) :
    Calls Try.prog 24 #[.pointer (some ⟨b, 0, none⟩), v] w (RetP w b 109 (hashC (wrAll x ds)) (.tuple #[])) := by
  obtain ⟨ps, hps, hel⟩ := hv
  have hpsr := hps.rd
  have cn := fun w b hB => hashNone_any x w b hB hx false (by simp [hlv])
  have cc := shaComp_any
  have hwok := fun ds => wrAll_ok x ds hx
  have hwn := wrAll_n x
  have hw0 : wrAll x (ds.take 0) = x := rfl
  refine calls_triP (b := b) (109) (hashA x) Try.func24 rfl Try.ntmps24 rfl rfl (hB) (fun _ => rfl) ?_
  repeat (first | (show Walk1 _ _ _ (_ :: _) _ _; first | (show Walk1 _ _ _ (⟨_, .move _, _, _, _, _⟩ :: _) _ _; first | refine walk1_t (op_moveN rfl rfl rfl rfl) ?_ | refine walk1_t (op_move rfl rfl rfl rfl) ?_) | (show Walk1 _ _ _ (⟨_, .call ⟨.builtin .len, _, _⟩, _, _, _, _⟩ :: _) _ _; refine walk1_t (op_lenF rfl rfl rfl (by first | assumption | exact FS.rd (by first | assumption | exact FSX.fs (by assumption) | (refine FS.cutB (by assumption) ?_; omega) | (refine FS.cut (by assumption) ?_; omega)))) ?_) | (show Walk1 _ _ _ (⟨_, .call ⟨.value (.func 39), _, _⟩, _, _, _, _⟩ :: _) _ _; ((first | refine walk1_callP (hashA x) rfl rfl rfl rfl (by repeat (first | exact evs_nil | apply evs_cons rfl)) rfl rfl rfl ?_ | refine walk1_callP0 (hashA x) rfl rfl rfl (by repeat (first | exact evs_nil | apply evs_cons rfl)) rfl rfl rfl ?_); refine ⟨_, _, _, callP_0 (cells0 := hashC x) rfl (fun _ => rfl) (fun e w h => cn w _ h), (fun _ => rfl), ?_⟩))) | refine go1 ?_ | refine end_block_other rfl ?_ | refine end_scope (fun _ h => by cases h) ?_ | (refine walk_endD ?_ ?_; (· kernel_rfl)) | refine tri_yesA rfl ?_ | refine tri_noA rfl ?_ | refine tri_trueA rfl ?_ | refine tri_falseA rfl ?_)
  refine tri_loop (X := Nat) (fun j => ⟨[(11, SV.c (.int .i64 ((j : Nat) : Int))), (10, SV.c (.int .i64 ((ds.length : Nat) : Int))), (9, .c v), (0, .p 1000 0)], [(1000, some (.blk 1000 109 (hashA (wrAll x (ds.take j))))), (1001, some (.is 1000 b))]⟩)
    (fun j => j ≤ ds.length) (fun j => ds.length - j) 0 (by omega) (by rw [hw0]; exact ent_keep (by repeat (first | exact hasT_nil | refine hasT_cons rfl ?_ | refine hasT_eq rfl (svi (by omega)) ?_)) (by repeat (first | exact hasR_nil | refine hasR_cons rfl ?_))) ?_
  intro j hj K next
  by_cases h1 : j < ds.length
  · have hdj : ds[j]? = some ds[j] := List.getElem?_eq_getElem h1
    obtain ⟨p, hp, hfs⟩ := hel j ds[j] hdj
    have hft := flat_take' ds j ds[j] hdj
    have hfl := flat_le' ds (j + 1)
    have hst := wrAll_take x ds j ds[j] hdj
    have hyn := hwn (ds.take j)
    have hyok := hwok (ds.take j)
    generalize ds[j] = d at *
    generalize wrAll x (ds.take j) = y at *
    clear hel hw0 hwn hwok
    obtain ⟨Y, hwr⟩ : ∃ Y, Y = wrD y d := ⟨_, rfl⟩
    rw [← hwr] at hst
    repeat (first | (show Walk1 _ _ _ (_ :: _) _ _; first | (show Walk1 _ _ _ (⟨_, .assign _, _, _, _, _⟩ :: _) _ _; refine walk1_t (op_assign rfl rfl rfl rfl) ?_) | (show Walk1 _ _ _ (⟨_, .binOp .lss _ _ _ _, _, _, _, _⟩ :: _) _ _; refine walk1_t (op_ltN rfl rfl rfl (by first | exact evN_const rfl | exact rfl) (by first | exact evN_const rfl | exact rfl)) ?_) | (show Walk1 _ _ _ (⟨_, .indexAddr _ _ _, _, _, _, _⟩ :: _) _ _; refine walk1_t (op_idxF rfl rfl rfl rfl (by first | exact evK_const rfl | exact evK_tmp rfl) rfl rfl (by first | assumption | exact FS.rd (by first | assumption | exact FSX.fs (by assumption) | (refine FS.cutB (by assumption) ?_; omega) | (refine FS.cut (by assumption) ?_; omega))) (by first | omega | decide) off_one) ?_) | (show Walk1 _ _ _ (⟨_, .load _ _, _, _, _, _⟩ :: _) _ _; refine walk1_t (op_loadX rfl rfl rfl rfl rfl rfl (by first | assumption | exact FSX.rdx (by assumption) | exact FSX.rdx (FSX.cutB (by assumption) (by omega))) (by omega) (by assumption)) ?_)) | refine go1 ?_ | refine end_block_other rfl ?_ | refine end_scope (fun _ h => by cases h) ?_ | (refine walk_endD ?_ ?_; (· kernel_rfl)) | refine tri_yesA rfl ?_ | refine tri_noA rfl ?_ | refine tri_trueA rfl ?_ | refine tri_falseA rfl ?_)
    refine tri_loop (X := HSt × Value × List (BitVec 8)) (fun X => ⟨[(5, .c X.2.1), (11, SV.c (.int .i64 ((j : Nat) : Int))), (10, SV.c (.int .i64 ((ds.length : Nat) : Int))), (9, .c v), (0, .p 1000 0)], [(1000, some (.blk 1000 109 (hashA X.1))), (1001, some (.is 1000 b))]⟩)
      (fun X => X.1.ok ∧ X.1.n + X.2.2.length ≤ 1099511627776 ∧ FSX w [b] 1 X.2.1 X.2.2.length (valsL .u8 X.2.2) ∧ wrD X.1 X.2.2 = Y) (fun X => X.2.2.length) (y, p, d) ⟨hyok, by simp only; omega, hfs, hwr.symm⟩ (ent_keep (by repeat (first | exact hasT_nil | refine hasT_cons rfl ?_ | refine hasT_eq rfl (svi (by omega)) ?_)) (by repeat (first | exact hasR_nil | refine hasR_cons rfl ?_))) ?_
    clear hwr hyn hyok hfs hp hft hfl hdj
    rintro ⟨y, p, d⟩ ⟨hyok, hyn, hfs, hwr⟩ K1 next1
    dsimp only at hyok hyn hfs hwr
    by_cases h2 : 0 < d.length
    · have hstep := wrD_step y d h2
      have hsok := y.step_ok d hyok
      have hmle := y.m_le d
      have hmpos := y.m_pos d h2
      have hcut := hfs.cutB (lo := y.m d) (len := d.length - y.m d) (by omega)
      rw [List.take_of_length_le (by rw [List.length_drop]; omega)] at hcut
      rw [hwr] at hstep
      obtain ⟨h, B, n⟩ := y
      obtain ⟨hh, hBl⟩ := hyok
      change h.length = 8 at hh
      change B.length = 64 at hBl
      dsimp only at hyn
      have hm : HSt.m ⟨h, B, n⟩ d = min d.length (64 - n % 64) := rfl
      have hF : HSt.fill ⟨h, B, n⟩ d = B.take (n % 64) ++ (d.take (min d.length (64 - n % 64)) ++ B.drop (n % 64 + min d.length (64 - n % 64))) := rfl
      have hS : HSt.step ⟨h, B, n⟩ d = ⟨if (n + HSt.m ⟨h, B, n⟩ d) % 64 = 0 then compL h (HSt.fill ⟨h, B, n⟩ d) else h, HSt.fill ⟨h, B, n⟩ d, n + HSt.m ⟨h, B, n⟩ d⟩ := rfl
      have hFl := HSt.fill_length ⟨h, B, n⟩ d hBl
      have hmr : n % 64 + HSt.m ⟨h, B, n⟩ d ≤ 64 := by rw [hm]; omega
      simp only [hashA]
      iterate 27 (try (first | (show Walk1 _ _ _ (_ :: _) _ _; first | (show Walk1 _ _ _ (⟨_, .move _, _, _, _, _⟩ :: _) _ _; refine walk1_t (op_move rfl rfl rfl rfl) ?_) | (show Walk1 _ _ _ (⟨_, .binOp .gtr _ _ _ _, _, _, _, _⟩ :: _) _ _; refine walk1_t (op_gtN rfl rfl rfl (by first | exact evN_const rfl | exact rfl) (by first | exact evN_const rfl | exact rfl)) ?_) | (show Walk1 _ _ _ (⟨_, .call ⟨.builtin .len, _, _⟩, _, _, _, _⟩ :: _) _ _; refine walk1_t (op_lenF rfl rfl rfl (by first | assumption | exact FS.rd (by first | assumption | exact FSX.fs (by assumption) | (refine FS.cutB (by assumption) ?_; omega) | (refine FS.cut (by assumption) ?_; omega)))) ?_)) | (show WalkTo _ _ _ _ (_ :: _) _ _ _; first | (show WalkTo _ _ _ _ (⟨_, .move _, _, _, _, _⟩ :: _) _ _ _; refine walk_t (op_move rfl rfl rfl rfl) ?_) | (show WalkTo _ _ _ _ (⟨_, .assign _, _, _, _, _⟩ :: _) _ _ _; refine walk_t (op_assign rfl rfl rfl rfl) ?_) | (show WalkTo _ _ _ _ (⟨_, .binOp .rem _ _ _ _, _, _, _, _⟩ :: _) _ _ _; refine walk_t (op_remN rfl rfl rfl (by first | exact evN_const rfl | exact rfl) (by first | exact evN_const rfl | exact rfl) (by omega)) ?_) | (show WalkTo _ _ _ _ (⟨_, .load _ _, _, _, _, _⟩ :: _) _ _ _; refine walk_t (op_load rfl rfl rfl rfl rfl rfl rfl) ?_) | (show WalkTo _ _ _ _ (⟨_, .nilCheck _, _, _, _, _⟩ :: _) _ _ _; refine walk_t (op_nilP rfl rfl rfl rfl) ?_) | (show WalkTo _ _ _ _ (⟨_, .fieldAddr _ _ _, _, _, _, _⟩ :: _) _ _ _; refine walk_t (op_fldT rfl rfl rfl rfl rfl rfl off_zero) ?_) | (show WalkTo _ _ _ _ (⟨_, .call ⟨.builtin .copy, _, _⟩, _, _, _, _⟩ :: _) _ _ _; (first | refine walk_tb (op_copyB rfl rfl rfl rfl rfl rfl) ?_ | refine walk_b (op_copyB rfl rfl rfl rfl rfl rfl) ?_)) | (show WalkTo _ _ _ _ (⟨_, .slice _ _ _ _ _, _, _, _, _⟩ :: _) _ _ _; refine walk_t (op_cutP2 rfl rfl rfl rfl rfl rfl) ?_)) | refine go1 ?_ | refine end_block_other rfl ?_ | refine end_scope (fun _ h => by cases h) ?_ | (refine walk_endD ?_ ?_; (· kernel_rfl)) | refine tri_yesA rfl ?_ | refine tri_noA rfl ?_ | refine tri_trueA rfl ?_ | refine tri_falseA rfl ?_))
      rw [Nat.add_sub_cancel_left, ← hF, ← hm]
      rw [hS] at hstep hsok
      clear hF hS hm
      generalize HSt.m ⟨h, B, n⟩ d = m at *
      generalize HSt.fill ⟨h, B, n⟩ d = F at *
      have hcl := compL_length h F hh
      by_cases h3 : (n + m) % 64 = 0
      · rw [if_pos h3] at hstep hsok
        repeat (first | (show Walk1 _ _ _ (_ :: _) _ _; first | (show Walk1 _ _ _ (⟨_, .move _, _, _, _, _⟩ :: _) _ _; refine walk1_t (op_move rfl rfl rfl rfl) ?_) | (show Walk1 _ _ _ (⟨_, .assign _, _, _, _, _⟩ :: _) _ _; refine walk1_t (op_assign rfl rfl rfl rfl) ?_) | (show Walk1 _ _ _ (⟨_, .binOp .add _ _ _ _, _, _, _, _⟩ :: _) _ _; refine walk1_t (op_addN rfl rfl rfl (by first | exact evN_const rfl | exact rfl) (by first | exact evN_const rfl | exact rfl) (by omega)) ?_) | (show Walk1 _ _ _ (⟨_, .binOp .rem _ _ _ _, _, _, _, _⟩ :: _) _ _; refine walk1_t (op_remN rfl rfl rfl (by first | exact evN_const rfl | exact rfl) (by first | exact evN_const rfl | exact rfl) (by omega)) ?_) | (show Walk1 _ _ _ (⟨_, .binOp .eql _ _ _ _, _, _, _, _⟩ :: _) _ _; refine walk1_t (op_eqN rfl rfl rfl (by first | exact evN_const rfl | exact rfl) (by first | exact evN_const rfl | exact rfl)) ?_) | (show Walk1 _ _ _ (⟨_, .load _ _, _, _, _, _⟩ :: _) _ _; refine walk1_t (op_load rfl rfl rfl rfl rfl rfl rfl) ?_) | (show Walk1 _ _ _ (⟨_, .store _ _ _, _, _, _, _⟩ :: _) _ _; refine walk1_b (op_store rfl rfl rfl rfl rfl rfl rfl) ?_) | (show Walk1 _ _ _ (⟨_, .nilCheck _, _, _, _, _⟩ :: _) _ _; refine walk1_t (op_nilP rfl rfl rfl rfl) ?_) | (show Walk1 _ _ _ (⟨_, .fieldAddr _ _ _, _, _, _, _⟩ :: _) _ _; refine walk1_t (op_fldT rfl rfl rfl rfl rfl rfl off_zero) ?_) | (show Walk1 _ _ _ (⟨_, .slice _ _ _ _ _, _, _, _, _⟩ :: _) _ _; refine walk1_t (op_cutF rfl rfl rfl rfl rfl rfl) ?_)) | (show WalkTo _ _ _ _ (_ :: _) _ _ _; first | (show WalkTo _ _ _ _ (⟨_, .move _, _, _, _, _⟩ :: _) _ _ _; refine walk_t (op_move rfl rfl rfl rfl) ?_) | (show WalkTo _ _ _ _ (⟨_, .load _ _, _, _, _, _⟩ :: _) _ _ _; refine walk_t (op_loadsM rfl rfl rfl rfl rfl rfl rfl rfl) ?_) | (show WalkTo _ _ _ _ (⟨_, .store _ _ _, _, _, _, _⟩ :: _) _ _ _; refine walk_b (op_storesM rfl rfl rfl rfl rfl rfl rfl) ?_) | (show WalkTo _ _ _ _ (⟨_, .nilCheck _, _, _, _, _⟩ :: _) _ _ _; refine walk_t (op_nilP rfl rfl rfl rfl) ?_) | (show WalkTo _ _ _ _ (⟨_, .fieldAddr _ _ _, _, _, _, _⟩ :: _) _ _ _; refine walk_t (op_fldT rfl rfl rfl rfl rfl rfl off_zero) ?_) | (show WalkTo _ _ _ _ (⟨_, .call ⟨.value (.func 40), _, _⟩, _, _, _, _⟩ :: _) _ _ _; ((first | refine walk_call rfl rfl rfl rfl (by repeat (first | exact evs_nil | apply evs_cons rfl)) rfl ?_ | refine walk_call0 rfl rfl rfl (by repeat (first | exact evs_nil | apply evs_cons rfl)) rfl ?_); refine ⟨_, fun e w => cc _ _ w (by with_reducible assumption) (by with_reducible assumption), ?_⟩))) | refine go1 ?_ | refine end_block_other rfl ?_ | refine end_scope (fun _ h => by cases h) ?_ | (refine walk_endD ?_ ?_; (· kernel_rfl)) | refine tri_yesA rfl ?_ | refine tri_noA rfl ?_ | refine tri_trueA rfl ?_ | refine tri_falseA rfl ?_)
        refine next1 _ (⟨compL h F, F, n + m⟩, cutV p m (d.length - m), d.drop m) ⟨hsok, by simp only [List.length_drop]; omega, by simpa only [List.length_drop] using hcut, hstep⟩ (by simp only [List.length_drop]; omega) ?_
        exact ent_keep (by repeat (first | exact hasT_nil | refine hasT_cons rfl ?_ | refine hasT_eq rfl (svi (by omega)) ?_)) (by repeat (first | exact hasR_nil | refine hasR_cons rfl ?_))
      · rw [if_neg h3] at hstep hsok
        repeat (first | (show Walk1 _ _ _ (_ :: _) _ _; first | (show Walk1 _ _ _ (⟨_, .move _, _, _, _, _⟩ :: _) _ _; refine walk1_t (op_move rfl rfl rfl rfl) ?_) | (show Walk1 _ _ _ (⟨_, .assign _, _, _, _, _⟩ :: _) _ _; refine walk1_t (op_assign rfl rfl rfl rfl) ?_) | (show Walk1 _ _ _ (⟨_, .binOp .add _ _ _ _, _, _, _, _⟩ :: _) _ _; refine walk1_t (op_addN rfl rfl rfl (by first | exact evN_const rfl | exact rfl) (by first | exact evN_const rfl | exact rfl) (by omega)) ?_) | (show Walk1 _ _ _ (⟨_, .binOp .rem _ _ _ _, _, _, _, _⟩ :: _) _ _; refine walk1_t (op_remN rfl rfl rfl (by first | exact evN_const rfl | exact rfl) (by first | exact evN_const rfl | exact rfl) (by omega)) ?_) | (show Walk1 _ _ _ (⟨_, .binOp .eql _ _ _ _, _, _, _, _⟩ :: _) _ _; refine walk1_t (op_eqN rfl rfl rfl (by first | exact evN_const rfl | exact rfl) (by first | exact evN_const rfl | exact rfl)) ?_) | (show Walk1 _ _ _ (⟨_, .load _ _, _, _, _, _⟩ :: _) _ _; refine walk1_t (op_load rfl rfl rfl rfl rfl rfl rfl) ?_) | (show Walk1 _ _ _ (⟨_, .store _ _ _, _, _, _, _⟩ :: _) _ _; refine walk1_b (op_store rfl rfl rfl rfl rfl rfl rfl) ?_) | (show Walk1 _ _ _ (⟨_, .nilCheck _, _, _, _, _⟩ :: _) _ _; refine walk1_t (op_nilP rfl rfl rfl rfl) ?_) | (show Walk1 _ _ _ (⟨_, .fieldAddr _ _ _, _, _, _, _⟩ :: _) _ _; refine walk1_t (op_fldT rfl rfl rfl rfl rfl rfl off_zero) ?_) | (show Walk1 _ _ _ (⟨_, .slice _ _ _ _ _, _, _, _, _⟩ :: _) _ _; refine walk1_t (op_cutF rfl rfl rfl rfl rfl rfl) ?_)) | refine go1 ?_ | refine end_block_other rfl ?_ | refine end_scope (fun _ h => by cases h) ?_ | (refine walk_endD ?_ ?_; (· kernel_rfl)) | refine tri_yesA rfl ?_ | refine tri_noA rfl ?_ | refine tri_trueA rfl ?_ | refine tri_falseA rfl ?_)
        refine next1 _ (⟨h, F, n + m⟩, cutV p m (d.length - m), d.drop m) ⟨hsok, by simp only [List.length_drop]; omega, by simpa only [List.length_drop] using hcut, hstep⟩ (by simp only [List.length_drop]; omega) ?_
        exact ent_keep (by repeat (first | exact hasT_nil | refine hasT_cons rfl ?_ | refine hasT_eq rfl (svi (by omega)) ?_)) (by repeat (first | exact hasR_nil | refine hasR_cons rfl ?_))
    · obtain rfl : d = [] := List.eq_nil_of_length_eq_zero (by omega)
      rw [wrD_nil] at hwr
      subst hwr
      rw [← hst]
      simp only [List.length_nil] at hfs
      repeat (first | (show Walk1 _ _ _ (_ :: _) _ _; first | (show Walk1 _ _ _ (⟨_, .move _, _, _, _, _⟩ :: _) _ _; refine walk1_t (op_move rfl rfl rfl rfl) ?_) | (show Walk1 _ _ _ (⟨_, .binOp .add _ _ _ _, _, _, _, _⟩ :: _) _ _; refine walk1_t (op_addN rfl rfl rfl (by first | exact evN_const rfl | exact rfl) (by first | exact evN_const rfl | exact rfl) (by omega)) ?_) | (show Walk1 _ _ _ (⟨_, .binOp .gtr _ _ _ _, _, _, _, _⟩ :: _) _ _; refine walk1_t (op_gtN rfl rfl rfl (by first | exact evN_const rfl | exact rfl) (by first | exact evN_const rfl | exact rfl)) ?_) | (show Walk1 _ _ _ (⟨_, .call ⟨.builtin .len, _, _⟩, _, _, _, _⟩ :: _) _ _; refine walk1_t (op_lenF rfl rfl rfl (by first | assumption | exact FS.rd (by first | assumption | exact FSX.fs (by assumption) | (refine FS.cutB (by assumption) ?_; omega) | (refine FS.cut (by assumption) ?_; omega)))) ?_)) | refine go1 ?_ | refine end_block_other rfl ?_ | refine end_scope (fun _ h => by cases h) ?_ | (refine walk_endD ?_ ?_; (· kernel_rfl)) | refine tri_yesA rfl ?_ | refine tri_noA rfl ?_ | refine tri_trueA rfl ?_ | refine tri_falseA rfl ?_)
      exact next _ (j + 1) (by omega) (by omega) (ent_keep (by repeat (first | exact hasT_nil | refine hasT_cons rfl ?_ | refine hasT_eq rfl (svi (by omega)) ?_)) (by repeat (first | exact hasR_nil | refine hasR_cons rfl ?_)))
  · obtain rfl : j = ds.length := by omega
    rw [List.take_of_length_le (Nat.le_refl _)]
    repeat (first | (show Walk1 _ _ _ (_ :: _) _ _; (show Walk1 _ _ _ (⟨_, .binOp .lss _ _ _ _, _, _, _, _⟩ :: _) _ _; refine walk1_t (op_ltN rfl rfl rfl (by first | exact evN_const rfl | exact rfl) (by first | exact evN_const rfl | exact rfl)) ?_)) | refine go1 ?_ | refine end_block_other rfl ?_ | refine end_scope (fun _ h => by cases h) ?_ | (refine walk_endD ?_ ?_; (· kernel_rfl)) | refine tri_yesA rfl ?_ | refine tri_noA rfl ?_ | refine tri_trueA rfl ?_ | refine tri_falseA rfl ?_)
    refine end_normal (.c (.tuple #[])) (res_none rfl) ?_
    exact fin_obj rfl rfl (fun _ => rfl) (fun _ => rfl)
end Go.Proofs.Ytihbiejgebmeaaa
namespace Go.Proofs.Ytihbiejgebmeaaa
open Go.RowKit
set_option maxRecDepth 100000
set_option maxHeartbeats 4000000
attribute [local irreducible] Calls Walk1 WalkTo Tri EndA
theorem dgL_set (h : List (BitVec 32)) (i : Nat) (hi : i < 8) (O : List (BitVec 8)) (hO : O = (dgL h).take (4 * i) ++ List.replicate (32 - 4 * i) 0#8) :
    (((O.set (4 * i) ((gt h i >>> 24).setWidth 8)).set (4 * i + 1) ((gt h i >>> 16).setWidth 8)).set (4 * i + 2) ((gt h i >>> 8).setWidth 8)).set (4 * i + 3) ((gt h i).setWidth 8) = (dgL h).take (4 * (i + 1)) ++ List.replicate (32 - 4 * (i + 1)) 0#8 := by
  subst hO
  have h0 : ∀ x : BitVec 32, x >>> 0 = x := fun x => by simp
  match i, hi with
  | 0, _ => simp [dgL, List.range, List.range.loop, List.replicate, h0]
  | 1, _ => simp [dgL, List.range, List.range.loop, List.replicate, h0]
  | 2, _ => simp [dgL, List.range, List.range.loop, List.replicate, h0]
  | 3, _ => simp [dgL, List.range, List.range.loop, List.replicate, h0]
  | 4, _ => simp [dgL, List.range, List.range.loop, List.replicate, h0]
  | 5, _ => simp [dgL, List.range, List.range.loop, List.replicate, h0]
  | 6, _ => simp [dgL, List.range, List.range.loop, List.replicate, h0]
  | 7, _ => simp [dgL, List.range, List.range.loop, List.replicate, h0]
theorem hashSum_any (x : HSt) (msg : List (BitVec 8)) (w : World) (b : Nat) (hB : Blk w b (hashC x) 109) (hg : Good x msg) (hm : msg.length ≤ 1000000000000) :
    Calls Try.prog 25 #[.pointer (some ⟨b, 0, none⟩)] w (RetP w b 109 (hashC x) (.agg (vals .u8 (shaL msg)))) := by
  have cn := fun w b hB => hashNone_any x w b hB hg.ok false (by simp [hg.live])
  have cp := fun w => shaPad_any x.n (by rw [hg.n]; omega) w
  have hpl := padL_length x.n
  have cw := fun w b hB v hv => hashWrite_any x [padL x.n] v w b hB hg.ok hg.live hv (by rw [hg.n] at hpl ⊢; simp only [List.flatten_cons, List.flatten_nil, List.append_nil]; omega) (by simp)
  have hsum := hg.sum
  have hyok := wrD_ok x (padL x.n) hg.ok
  rw [show wrAll x [padL x.n] = wrD x (padL x.n) from rfl] at cw
  generalize wrD x (padL x.n) = y at *
  rw [← hsum]
  rw [← hpl] at cp
  have hdl := dgL_length y.h
  have hpn : 1 + (119 - x.n % 64) % 64 + 8 ≤ 73 := by omega
  rw [← hpl] at hpn
  generalize padL x.n = pd at *
  have hxok := hg.ok
  have hxn : x.n ≤ 1000000000000 := by rw [hg.n]; exact hm
  clear hsum hg
  obtain ⟨h, B, n⟩ := x
  obtain ⟨hh, hBl⟩ := hxok
  change h.length = 8 at hh
  change B.length = 64 at hBl
  dsimp only at hxn
  obtain ⟨h', B', n'⟩ := y
  obtain ⟨hh', hBl'⟩ := hyok
  change h'.length = 8 at hh'
  change B'.length = 64 at hBl'
  refine calls_triP (b := b) (109) (hashA ⟨h, B, n⟩) Try.func25 rfl Try.ntmps25 rfl rfl (hB) (fun _ => rfl) ?_
  simp only [hashA]
  repeat (first | (show Walk1 _ _ _ (_ :: _) _ _; first | (show Walk1 _ _ _ (⟨_, .move _, _, _, _, _⟩ :: _) _ _; first | refine walk1_t (op_moveN rfl rfl rfl rfl) ?_ | refine walk1_t (op_move rfl rfl rfl rfl) ?_) | (show Walk1 _ _ _ (⟨_, .load _ _, _, _, _, _⟩ :: _) _ _; first | refine walk1_t (op_load rfl rfl rfl rfl rfl rfl rfl) ?_ | refine walk1_t (op_loadsM rfl rfl rfl rfl rfl rfl rfl rfl) ?_) | (show Walk1 _ _ _ (⟨_, .store _ _ _, _, _, _, _⟩ :: _) _ _; refine walk1_b (op_storesM rfl rfl rfl rfl rfl rfl rfl) ?_) | (show Walk1 _ _ _ (⟨_, .alloc _, _, _, _, _⟩ :: _) _ _; refine walk1_n (op_alloc rfl rfl rfl rfl rfl) (by kernel_rfl) ?_) | (show Walk1 _ _ _ (⟨_, .nilCheck _, _, _, _, _⟩ :: _) _ _; refine walk1_t (op_nilP rfl rfl rfl rfl) ?_) | (show Walk1 _ _ _ (⟨_, .fieldAddr _ _ _, _, _, _, _⟩ :: _) _ _; refine walk1_t (op_fldT rfl rfl rfl rfl rfl rfl off_zero) ?_) | (show Walk1 _ _ _ (⟨_, .buildSlice _ _ _, _, _, _, _⟩ :: _) _ _; refine walk1_n (op_bsliceV rfl rfl rfl rfl rfl rfl rfl rfl rfl rfl rfl rfl) (by kernel_rfl) ?_) | (show Walk1 _ _ _ (⟨_, .call ⟨.value (.func 39), _, _⟩, _, _, _, _⟩ :: _) _ _; ((first | refine walk1_callP ((SA.c (vals .u32 h)).app ((SA.c (vals .u8 B)).app (SA.l [SV.c (.int .i64 ((n : Nat) : Int))]))) rfl rfl rfl rfl (by repeat (first | exact evs_nil | apply evs_cons rfl)) rfl rfl rfl ?_ | refine walk1_callP0 ((SA.c (vals .u32 h)).app ((SA.c (vals .u8 B)).app (SA.l [SV.c (.int .i64 ((n : Nat) : Int))]))) rfl rfl rfl (by repeat (first | exact evs_nil | apply evs_cons rfl)) rfl rfl rfl ?_); refine ⟨_, _, _, callP_0 (cells0 := hashC ⟨h, B, n⟩) rfl (fun _ => rfl) (fun e w h => cn w _ h), (fun _ => rfl), ?_⟩)) | (show Walk1 _ _ _ (⟨_, .call ⟨.value (.func 41), _, _⟩, _, _, _, _⟩ :: _) _ _; (refine walk1_callO rfl rfl rfl rfl (by kernel_rfl) (by repeat (first | exact evs_nil | apply evs_cons rfl)) rfl ?_; refine ⟨_, _, _, _, _, callO_0  (fun e w  => cp w), ?_⟩)) | (show Walk1 _ _ _ (⟨_, .call ⟨.value (.func 24), _, _⟩, _, _, _, _⟩ :: _) _ _; ((first | refine walk1_callP ((SA.c (vals .u32 h')).app ((SA.c (vals .u8 B')).app (SA.l [SV.c (.int .i64 ((n' : Nat) : Int))]))) rfl rfl rfl rfl (by repeat (first | exact evs_nil | apply evs_cons rfl)) rfl rfl rfl ?_ | refine walk1_callP0 ((SA.c (vals .u32 h')).app ((SA.c (vals .u8 B')).app (SA.l [SV.c (.int .i64 ((n' : Nat) : Int))]))) rfl rfl rfl (by repeat (first | exact evs_nil | apply evs_cons rfl)) rfl rfl rfl ?_); refine ⟨_, _, _, callP_s (cells0 := hashC ⟨h, B, n⟩) rfl (fun _ => rfl) (by first | exact slcq_old (by first | assumption | exact slcx_of (by assumption)) | exact slcq_row rfl (by first | rfl | omega) (by assumption) | exact slcq_list rfl (by repeat (first | exact fsqs_nil | apply fsqs_cons (by first | exact fsq_own rfl | exact fsq_osub rfl | exact fsq_subU rfl (by omega) rfl | exact fsq_ones rfl rfl (by omega) | exact fsq_one rfl (by omega) | exact fsq_lit rfl (by repeat (first | exact litl_nil | apply litl_bv | refine litl_z rfl ?_)) rfl (by omega) | exact fsq_whole rfl (by first | (with_reducible assumption) | rfl | (simp <;> fail) | omega) (by omega) | exact fsq_old (by first | assumption | exact fsx_of (by assumption) (by omega) | exact FSX.cutB (by assumption) (by omega) | exact fsx_of (FS.cutB (by assumption) (by omega)) (by omega)) | exact fsq_nil))) rfl) (by kernel_rfl) (fun e w h h1 => cw w _ h _ h1), (fun _ => rfl), ?_⟩))) | refine go1 ?_ | refine end_block_other rfl ?_ | refine end_scope (fun _ h => by cases h) ?_ | (refine walk_endD ?_ ?_; (· kernel_rfl)) | refine tri_yesA rfl ?_ | refine tri_noA rfl ?_ | refine tri_trueA rfl ?_ | refine tri_falseA rfl ?_)
  have hset := dgL_set h'
  generalize hD : dgL h' = D at *
  clear hD cw cp cn
  refine tri_loop (X := Nat) (fun i => ⟨[(22, SV.c (.int .i64 ((i : Nat) : Int))), (21, .c (.agg (vals .u32 h'))), (4, .p 4 0), (2, .p 2 0)], [(4, some (.blk 4 44 (.c (vals .u8 (D.take (4 * i) ++ List.replicate (32 - 4 * i) 0#8))))), (2, some (.blk 2 44 (.c (vals .u8 (List.replicate 32 0#8))))), (1000, some (.blk 1000 109 (hashA ⟨h, B, n⟩))), (1001, some (.is 1000 b))]⟩)
    (fun i => i ≤ 8) (fun i => 8 - i) 0 (by omega) (ent_keep (by repeat (first | exact hasT_nil | refine hasT_cons rfl ?_ | refine hasT_eq rfl (svi (by omega)) ?_)) (by repeat (first | exact hasR_nil | refine hasR_cons rfl ?_))) ?_
  intro i hi K next
  by_cases h1 : i < 8
  · have hs := hset i h1 _ rfl
    have hOl : (D.take (4 * i) ++ List.replicate (32 - 4 * i) 0#8).length = 32 := by simp; omega
    generalize D.take (4 * i) ++ List.replicate (32 - 4 * i) 0#8 = O at *
    repeat (first | (show Walk1 _ _ _ (_ :: _) _ _; first | (show Walk1 _ _ _ (⟨_, .move _, _, _, _, _⟩ :: _) _ _; refine walk1_t (op_move rfl rfl rfl rfl) ?_) | (show Walk1 _ _ _ (⟨_, .assign _, _, _, _, _⟩ :: _) _ _; refine walk1_t (op_assign rfl rfl rfl rfl) ?_) | (show Walk1 _ _ _ (⟨_, .binOp .add _ _ _ _, _, _, _, _⟩ :: _) _ _; refine walk1_t (op_addN rfl rfl rfl (by first | exact evN_const rfl | exact rfl) (by first | exact evN_const rfl | exact rfl) (by omega)) ?_) | (show Walk1 _ _ _ (⟨_, .binOp .mul _ _ _ _, _, _, _, _⟩ :: _) _ _; refine walk1_t (op_mulN rfl rfl rfl (by first | exact evN_const rfl | exact rfl) (by first | exact evN_const rfl | exact rfl) (by omega)) ?_) | (show Walk1 _ _ _ (⟨_, .binOp .lss _ _ _ _, _, _, _, _⟩ :: _) _ _; refine walk1_t (op_ltN rfl rfl rfl (by first | exact evN_const rfl | exact rfl) (by first | exact evN_const rfl | exact rfl)) ?_) | (show Walk1 _ _ _ (⟨_, .binOp .shr _ _ _ _, _, _, _, _⟩ :: _) _ _; refine walk1_t (op_shrB rfl rfl rfl (by (first | exact evB_tmp rfl | exact evB_lit rfl rfl)) (by first | exact evK_const rfl | exact evK_tmp rfl)) ?_) | (show Walk1 _ _ _ (⟨_, .indexAddr _ _ _, _, _, _, _⟩ :: _) _ _; refine walk1_t (op_idxP rfl rfl rfl rfl (by first | exact evK_const rfl | exact evK_tmp rfl) rfl rfl (by first | omega | decide) off_one) ?_) | (show Walk1 _ _ _ (⟨_, .store _ _ _, _, _, _, _⟩ :: _) _ _; refine walk1_b (op_store rfl rfl rfl rfl rfl rfl rfl) ?_) | (show Walk1 _ _ _ (⟨_, .index _ _ _, _, _, _, _⟩ :: _) _ _; refine walk1_t (op_index rfl rfl rfl rfl (by first | exact evK_const rfl | exact evK_tmp rfl) rfl rfl rfl rfl (by first | omega | decide) (vals_get (by first | omega | (simp; omega) | (simp <;> fail) | omega))) ?_) | (show Walk1 _ _ _ (⟨_, .convert _ _ _, _, _, _, _⟩ :: _) _ _; refine walk1_t (op_convBB rfl rfl rfl (by (first | exact evB_tmp rfl | exact evB_lit rfl rfl)) rfl rfl) ?_)) | refine go1 ?_ | refine end_block_other rfl ?_ | refine end_scope (fun _ h => by cases h) ?_ | (refine walk_endD ?_ ?_; (· kernel_rfl)) | refine tri_yesA rfl ?_ | refine tri_noA rfl ?_ | refine tri_trueA rfl ?_ | refine tri_falseA rfl ?_)
    rw [hs]
    exact next _ (i + 1) (by omega) (by omega) (ent_keep (by repeat (first | exact hasT_nil | refine hasT_cons rfl ?_ | refine hasT_eq rfl (svi (by omega)) ?_)) (by repeat (first | exact hasR_nil | refine hasR_cons rfl ?_)))
  · obtain rfl : i = 8 := by omega
    rw [show D.take (4 * 8) = D from List.take_of_length_le (by omega), show D ++ List.replicate (32 - 4 * 8) 0#8 = D from List.append_nil _]
    repeat (first | (show Walk1 _ _ _ (_ :: _) _ _; first | (show Walk1 _ _ _ (⟨_, .binOp .lss _ _ _ _, _, _, _, _⟩ :: _) _ _; refine walk1_t (op_ltN rfl rfl rfl (by first | exact evN_const rfl | exact rfl) (by first | exact evN_const rfl | exact rfl)) ?_) | (show Walk1 _ _ _ (⟨_, .load _ _, _, _, _, _⟩ :: _) _ _; refine walk1_t (op_loads rfl rfl rfl rfl rfl rfl rfl rfl) ?_) | (show Walk1 _ _ _ (⟨_, .store _ _ _, _, _, _, _⟩ :: _) _ _; refine walk1_b (op_stores rfl rfl rfl rfl rfl rfl rfl) ?_)) | refine go1 ?_ | refine end_block_other rfl ?_ | refine end_scope (fun _ h => by cases h) ?_ | (refine walk_endD ?_ ?_; (· kernel_rfl)) | refine tri_yesA rfl ?_ | refine tri_noA rfl ?_ | refine tri_trueA rfl ?_ | refine tri_falseA rfl ?_)
    refine end_ret _ (res_cells rfl rfl rfl rfl rfl rfl (sm_vals hdl) ag_c) ?_
    exact fin_obj rfl rfl (fun _ => rfl) (fun _ => rfl)
/-! ### a hash that New did not make -/
/-! ### the sum of all parts -/
theorem shaSum_any (v : Value) (ds : List (List (BitVec 8))) (w : World) (hv : SlcL w v ds) (hn : ds.flatten.length ≤ 1000000000) (hdl : ds.length ≤ 1000000000) :
    Calls Try.prog 12 #[v] w fun e w' => e = .returned (.agg (vals .u8 (shaL ds.flatten))) ∧ Below w.heap.size w w' := by
  have hX := slcx_of hv
  have cw := fun w b hB v hv => hashWrite_any new0 ds v w b hB good_new.ok good_new.live hv (by show 0 + _ ≤ _; omega) (by omega)
  have hg : Good (wrAll new0 ds) ds.flatten := good_new.wrAll
  have cs := fun w b hB => hashSum_any (wrAll new0 ds) ds.flatten w b hB hg (by omega)
  have hsl := shaL_length ds.flatten
  clear hg
  generalize wrAll new0 ds = y at *
  generalize shaL ds.flatten = R at *
  refine calls_tri Try.func12 rfl Try.ntmps12 rfl ?_
  repeat (first | (show Walk1 _ _ _ (_ :: _) _ _; first | (show Walk1 _ _ _ (⟨_, .move _, _, _, _, _⟩ :: _) _ _; refine walk1_t (op_move rfl rfl rfl rfl) ?_) | (show Walk1 _ _ _ (⟨_, .assign _, _, _, _, _⟩ :: _) _ _; refine walk1_t (op_assign rfl rfl rfl rfl) ?_) | (show Walk1 _ _ _ (⟨_, .store _ _ _, _, _, _, _⟩ :: _) _ _; refine walk1_b (op_stores rfl rfl rfl rfl rfl rfl rfl) ?_) | (show Walk1 _ _ _ (⟨_, .alloc _, _, _, _, _⟩ :: _) _ _; refine walk1_n (op_alloc rfl rfl rfl rfl rfl) (by kernel_rfl) ?_) | (show Walk1 _ _ _ (⟨_, .call ⟨.value (.func 23), _, _⟩, _, _, _, _⟩ :: _) _ _; (refine walk1_callN (hashA new0) rfl rfl rfl rfl (by kernel_rfl) (by repeat (first | exact evs_nil | apply evs_cons rfl)) rfl ?_; refine ⟨_, _, _, callN_0 (fun e w => shaNew_any w), (fun _ => rfl), ?_⟩)) | (show Walk1 _ _ _ (⟨_, .call ⟨.value (.func 24), _, _⟩, _, _, _, _⟩ :: _) _ _; ((first | refine walk1_callP (hashA y) rfl rfl rfl rfl (by repeat (first | exact evs_nil | apply evs_cons rfl)) rfl rfl rfl ?_ | refine walk1_callP0 (hashA y) rfl rfl rfl (by repeat (first | exact evs_nil | apply evs_cons rfl)) rfl rfl rfl ?_); refine ⟨_, _, _, callP_s (cells0 := hashC new0) rfl (fun _ => rfl) (by first | exact slcq_old (by first | assumption | exact slcx_of (by assumption)) | exact slcq_row rfl (by first | rfl | omega) (by assumption) | exact slcq_list rfl (by repeat (first | exact fsqs_nil | apply fsqs_cons (by first | exact fsq_own rfl | exact fsq_osub rfl | exact fsq_subU rfl (by omega) rfl | exact fsq_ones rfl rfl (by omega) | exact fsq_one rfl (by omega) | exact fsq_lit rfl (by repeat (first | exact litl_nil | apply litl_bv | refine litl_z rfl ?_)) rfl (by omega) | exact fsq_whole rfl (by first | (with_reducible assumption) | rfl | (simp <;> fail) | omega) (by omega) | exact fsq_old (by first | assumption | exact fsx_of (by assumption) (by omega) | exact FSX.cutB (by assumption) (by omega) | exact fsx_of (FS.cutB (by assumption) (by omega)) (by omega)) | exact fsq_nil))) rfl) (by kernel_rfl) (fun e w h h1 => cw w _ h _ h1), (fun _ => rfl), ?_⟩)) | (show Walk1 _ _ _ (⟨_, .call ⟨.value (.func 25), _, _⟩, _, _, _, _⟩ :: _) _ _; ((first | refine walk1_callP (hashA y) rfl rfl rfl rfl (by repeat (first | exact evs_nil | apply evs_cons rfl)) rfl rfl rfl ?_ | refine walk1_callP0 (hashA y) rfl rfl rfl (by repeat (first | exact evs_nil | apply evs_cons rfl)) rfl rfl rfl ?_); refine ⟨_, _, _, callP_0 (cells0 := hashC y) rfl (fun _ => rfl) (fun e w h => cs w _ h), (fun _ => rfl), ?_⟩))) | refine go1 ?_ | refine end_block_other rfl ?_ | refine end_scope (fun _ h => by cases h) ?_ | (refine walk_endD ?_ ?_; (· kernel_rfl)) | refine tri_yesA rfl ?_ | refine tri_noA rfl ?_ | refine tri_trueA rfl ?_ | refine tri_falseA rfl ?_)
  refine end_ret _ (res_cells rfl rfl rfl rfl rfl rfl (sm_vals hsl) ag_c) ?_
  exact fin_below fun _ => rfl
end Go.Proofs.Ytihbiejgebmeaaa
