/- A scene's writer; the empty scene written: walked. No condition. -/
import Derived.Test.YtihbiejgebmeaaaRecW0
import Derived.Test.YtihbiejgebmeaaaChnAB
namespace Go.Proofs.Ytihbiejgebmeaaa
open Go.RowKit
set_option maxRecDepth 100000
set_option maxHeartbeats 2000000
def pwC (v : Value) : Array Value := #[v]
def pwK (B : List (BitVec 8)) : World → Value → Prop := ownK 5 1 B.length (valsL .u8 B)
attribute [local irreducible] Calls Walk1 WalkTo Tri EndA
theorem projPut_any (B : List (BitVec 8)) (zs : List Int) (hz : ∀ z ∈ zs, okI z) (hB : B.length ≤ 1000000) (hl : zs.length ≤ 100) (v2 : Value) (w : World) (b : Nat) (v : Value) (hB0 : Blk w b (pwC v) 79) (hK : pwK B w v) (hne : v.ownBlock ≠ some b) (hv2 : RdX w (b :: v.ownBlock.toList) 1 v2 zs.length (zs.map (.int .i64))) :
    Calls Try.prog 26 #[.pointer (some ⟨b, 0, none⟩), v2] w (RetPL w b v.ownBlock 79 pwC (pwK (B ++ putL (sgL zs))) (.tuple #[])) := by
  have cp := fun (z : Int) (hzz : okI z) (v : Value) (w : World) h => signedNil_any v 1 [z] w h (fun x hx => by rw [List.mem_singleton] at hx; rw [hx]; exact hzz) (by simp)
  have hrd2 := hv2.rd
  have hp0 : B ++ putL (sgL (zs.take 0)) = B := by simp [sgL, putL]
  have hpl := fun j => putL_length (sgL (zs.take j))
  unfold pwK at *
  refine calls_triL (b := b) (79) (SA.l [SV.v 1002]) Try.func26 rfl Try.ntmps26 rfl rfl (hB0) (fun _ => rfl) isOwn_own hK hne ?_
  repeat (first | (show Walk1 _ _ _ (_ :: _) _ _; first | (show Walk1 _ _ _ (⟨_, .move _, _, _, _, _⟩ :: _) _ _; first | refine walk1_t (op_moveN rfl rfl rfl rfl) ?_ | refine walk1_t (op_move rfl rfl rfl rfl) ?_) | (show Walk1 _ _ _ (⟨_, .call ⟨.builtin .len, _, _⟩, _, _, _, _⟩ :: _) _ _; refine walk1_t (op_lenF rfl rfl rfl (by first | assumption | exact FS.rd (by first | assumption | exact FSX.fs (by assumption) | (refine FS.cutB (by assumption) ?_; omega) | (refine FS.cut (by assumption) ?_; omega)))) ?_)) | refine go1 ?_ | refine end_block_other rfl ?_ | refine end_scope (fun _ h => by cases h) ?_ | (refine walk_endD ?_ ?_; (· kernel_rfl)) | refine tri_yesA rfl ?_ | refine tri_noA rfl ?_ | refine tri_trueA rfl ?_ | refine tri_falseA rfl ?_)
  refine tri_loop (X := Nat) (fun j => ⟨[(10, SV.c (.int .i64 ((j : Nat) : Int))), (9, SV.c (.int .i64 ((zs.length : Nat) : Int))), (8, .c v2), (0, .p 1000 0)], [(1000, some (.blk 1000 79 (SA.l [SV.v 1002]))), (1001, some (.is 1000 b)), (1002, some (.own 1002 5 1 (B ++ putL (sgL (zs.take j))).length (valsL .u8 (B ++ putL (sgL (zs.take j))))))]⟩)
    (fun j => j ≤ zs.length) (fun j => zs.length - j) 0 (by omega) (by rw [hp0]; exact ent_keep (by repeat (first | exact hasT_nil | refine hasT_cons rfl ?_ | refine hasT_eq rfl (svi (by omega)) ?_)) (by repeat (first | exact hasR_nil | refine hasR_cons rfl ?_))) ?_
  intro j hj K next
  by_cases h : j < zs.length
  · obtain ⟨z, hzj⟩ : ∃ z, zs[j]? = some z := ⟨_, List.getElem?_eq_getElem h⟩
    have hzm : (zs.map (Value.int .i64))[j]? = some (.int .i64 z) := by rw [List.getElem?_map, hzj]; rfl
    have cp1 := fun v w h => cp z (hz z (List.mem_of_getElem? hzj)) v w h
    have hst : B ++ putL (sgL (zs.take (j + 1))) = (B ++ putL (sgL (zs.take j))) ++ putL (sgL [z]) := by
      rw [sgL_take zs j z hzj]
      simp [putL, sgL]
    have hbl : (B ++ putL (sgL (zs.take j))).length ≤ 1000800 := by
      rw [List.length_append, hpl, sgL, List.length_map, List.length_take]
      omega
    have h8 : (putL (sgL [z])).length = 8 := by rw [putL_length]; rfl
    have nx := fun S' => next S' (j + 1)
    rw [hst] at nx
    clear next cp hst hp0 hpl
    generalize B ++ putL (sgL (zs.take j)) = P at *
    generalize putL (sgL [z]) = E at *
    have hPE : (P ++ E).length = P.length + 8 := by rw [List.length_append, h8]
    rw [hPE] at nx
    rw [h8] at cp1
    repeat (first | (show Walk1 _ _ _ (_ :: _) _ _; first | (show Walk1 _ _ _ (⟨_, .move _, _, _, _, _⟩ :: _) _ _; refine walk1_t (op_move rfl rfl rfl rfl) ?_) | (show Walk1 _ _ _ (⟨_, .assign _, _, _, _, _⟩ :: _) _ _; refine walk1_t (op_assign rfl rfl rfl rfl) ?_) | (show Walk1 _ _ _ (⟨_, .binOp .add _ _ _ _, _, _, _, _⟩ :: _) _ _; refine walk1_t (op_addN rfl rfl rfl (by first | exact evN_const rfl | exact rfl) (by first | exact evN_const rfl | exact rfl) (by omega)) ?_) | (show Walk1 _ _ _ (⟨_, .binOp .lss _ _ _ _, _, _, _, _⟩ :: _) _ _; refine walk1_t (op_ltN rfl rfl rfl (by first | exact evN_const rfl | exact rfl) (by first | exact evN_const rfl | exact rfl)) ?_) | (show Walk1 _ _ _ (⟨_, .indexAddr _ _ _, _, _, _, _⟩ :: _) _ _; refine walk1_t (op_idxF rfl rfl rfl rfl (by first | exact evK_const rfl | exact evK_tmp rfl) rfl rfl (by first | assumption | exact FS.rd (by first | assumption | exact FSX.fs (by assumption) | (refine FS.cutB (by assumption) ?_; omega) | (refine FS.cut (by assumption) ?_; omega))) (by first | omega | decide) off_one) ?_) | (show Walk1 _ _ _ (⟨_, .load _ _, _, _, _, _⟩ :: _) _ _; first | refine walk1_t (op_load rfl rfl rfl rfl rfl rfl rfl) ?_ | refine walk1_t (op_loadX rfl rfl rfl rfl rfl rfl (by first | assumption | exact FSX.rdx (by assumption) | exact FSX.rdx (FSX.cutB (by assumption) (by omega))) (by omega) (by assumption)) ?_) | (show Walk1 _ _ _ (⟨_, .store _ _ _, _, _, _, _⟩ :: _) _ _; refine walk1_b (op_storeO rfl rfl rfl rfl rfl rfl rfl (by first | exact one_own rfl | exact one_osub rfl)) ?_) | (show Walk1 _ _ _ (⟨_, .nilCheck _, _, _, _, _⟩ :: _) _ _; refine walk1_t (op_nilP rfl rfl rfl rfl) ?_) | (show Walk1 _ _ _ (⟨_, .fieldAddr _ _ _, _, _, _, _⟩ :: _) _ _; refine walk1_t (op_fldT rfl rfl rfl rfl rfl rfl off_zero) ?_) | (show Walk1 _ _ _ (⟨_, .extract _ _, _, _, _, _⟩ :: _) _ _; refine walk1_t (op_extract rfl rfl rfl rfl rfl) ?_) | (show Walk1 _ _ _ (⟨_, .call ⟨.builtin .append, _, _⟩, _, _, _, _⟩ :: _) _ _; refine walk1_g (op_appendB rfl rfl rfl rfl rfl rfl rfl rfl rfl) (by kernel_rfl) ?_) | (show Walk1 _ _ _ (⟨_, .buildSlice _ _ _, _, _, _, _⟩ :: _) _ _; refine walk1_n (op_bslice1 rfl rfl rfl rfl rfl rfl rfl rfl rfl rfl rfl (ce_one fun _ => rfl) (sm_l rfl) (by kernel_rfl)) (by kernel_rfl) ?_) | (show Walk1 _ _ _ (⟨_, .call ⟨.value (.func 42), _, _⟩, _, _, _, _⟩ :: _) _ _; (refine walk1_callOT rfl rfl rfl rfl (by kernel_rfl) (by repeat (first | exact evs_nil | apply evs_cons rfl)) rfl ?_; refine ⟨_, _, _, _, _, _, callOT_1 ((show RdN _ _ _ 1 (SV.s 16 0 1 1) 1 ([z].map (Value.int .i64)) from rdn_ls [.int .i64 z] rfl rfl)) (fun e w h1 => cp1 _ w h1), ?_⟩))) | refine go1 ?_ | refine end_block_other rfl ?_ | refine end_scope (fun _ h => by cases h) ?_ | (refine walk_endD ?_ ?_; (· kernel_rfl)) | refine tri_yesA rfl ?_ | refine tri_noA rfl ?_ | refine tri_trueA rfl ?_ | refine tri_falseA rfl ?_)
    repeat (first | refine go1 ?_ | refine end_block_other rfl ?_ | refine end_scope (fun _ h => by cases h) ?_ | (refine walk_endD ?_ ?_; (· kernel_rfl)) | refine tri_yesA rfl ?_ | refine tri_noA rfl ?_ | refine tri_trueA rfl ?_ | refine tri_falseA rfl ?_)
    exact nx _ (by omega) (by omega) (ent_ren (fun n => cond (Nat.beq n 1002) 26 n) (by repeat (first | exact hasTm_nil | refine hasTm_cons rfl (fun _ => rfl) ?_)) (by repeat (first | exact hasRm_nil | refine hasRm_cons rfl (fun _ => rfl) (fun _ _ h => h) rfl ?_)) (by kernel_rfl))
  · obtain rfl : j = zs.length := by omega
    rw [List.take_of_length_le (Nat.le_refl _)]
    clear next cp
    repeat (first | (show Walk1 _ _ _ (_ :: _) _ _; (show Walk1 _ _ _ (⟨_, .binOp .lss _ _ _ _, _, _, _, _⟩ :: _) _ _; refine walk1_t (op_ltN rfl rfl rfl (by first | exact evN_const rfl | exact rfl) (by first | exact evN_const rfl | exact rfl)) ?_)) | refine go1 ?_ | refine end_block_other rfl ?_ | refine end_scope (fun _ h => by cases h) ?_ | (refine walk_endD ?_ ?_; (· kernel_rfl)) | refine tri_yesA rfl ?_ | refine tri_noA rfl ?_ | refine tri_trueA rfl ?_ | refine tri_falseA rfl ?_)
    refine end_normal (.c (.tuple #[])) (res_none rfl) ?_
    exact fin_objL rfl rfl rfl isOwn_own rfl (fun _ => rfl) (fun _ => rfl)
end Go.Proofs.Ytihbiejgebmeaaa
