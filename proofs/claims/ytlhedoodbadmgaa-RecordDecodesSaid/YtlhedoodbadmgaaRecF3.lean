/- The law RecordDecodes: walked. No condition. -/
import Derived.Test.YtlhedoodbadmgaaRecE1
import Derived.Test.YtlhedoodbadmgaaRecF2
import Derived.Test.YtlhedoodbadmgaaRecYA
import Derived.Test.YtlhedoodbadmgaaRecZDE
namespace Go.Proofs.Ytlhedoodbadmgaa
open Go.RowKit
set_option maxRecDepth 100000
set_option maxHeartbeats 4000000
theorem slV_rd {w : World} {sz n : Nat} {v : Value} {xs : List Value} (h : RdV w sz v n xs) : slV v = v := by
  obtain ⟨_, a, c, rfl, _⟩ := h
  rfl
attribute [local irreducible] Calls Walk1 WalkTo Tri EndA
theorem recordDecodes_walk (b : List (BitVec 8)) (v : Value) (w : World) (hv : FS w 1 v b.length (valsL .u8 b)) :
    Calls Try.prog 6 #[v] w fun e w' => e = .returned (.bool true) ∧ Below w.heap.size w w' := by
  have hmx : 0 + (min b.length 500 - 0) ≤ b.length := by omega
  have hv2 := hv.cutB hmx
  have hlx : ((b.drop 0).take (min b.length 500 - 0)).length = min b.length 500 - 0 := by rw [List.drop_zero, List.length_take]; omega
  have hrv := hv.rd
  have hv3 : FS w 1 (cutV v 0 (min b.length 500 - 0)) ((b.drop 0).take (min b.length 500 - 0)).length (valsL .u8 ((b.drop 0).take (min b.length 500 - 0))) := by rw [hlx]; exact hv2
  have hx5 : ((b.drop 0).take (min b.length 500 - 0)).length ≤ 500 := by omega
  clear hlx hmx hv2
  generalize (b.drop 0).take (min b.length 500 - 0) = b2 at *
  have cD := fun w h => decode_any b2 hx5 (cutV v 0 (min b.length 500 - 0)) w h
  have cR := fun w h => refDecode_any b2 hx5 (cutV v 0 (min b.length 500 - 0)) w h
  have hok := decR_ok ⟨b2, 0⟩
  have hlen := decI_len ⟨b2, 0⟩
  have hl2 : (decI ⟨b2, 0⟩).length ≤ 100000 := by
    have : (⟨b2, 0⟩ : RdS).rest.length ≤ 500 := hx5
    omega
  have cS : ∀ (u u' : Value) w, RdV w 1 u (decI ⟨b2, 0⟩).length (valsL .u64 (decI ⟨b2, 0⟩)) → RdV w 1 u' (decI ⟨b2, 0⟩).length (valsL .u64 (decI ⟨b2, 0⟩)) → Calls Try.prog 11 #[.agg (recA (decR ⟨b2, 0⟩) (slV u)), .agg (recA (decR ⟨b2, 0⟩) (slV u'))] w fun r w' => r = .returned (.bool true) ∧ Below w.heap.size w w' := fun u u' w h1 h2 => by
    have := refSame_any _ _ hok hok _ _ hl2 u u' _ _ (recF _ hok u) (recF _ hok u') w h1 h2
    rw [sameR_refl] at this
    rw [slV_rd h1, slV_rd h2]
    exact this
  have cw := fun w => works31_any w
  have hG1 : ∀ u, ((fun u => recA (decR ⟨b2, 0⟩) (slV u)) u).size = 93 := fun u => recA_size _ hok _
  have hG2 : ∀ u, ((fun u => recA (decR ⟨b2, 0⟩) (slV u)) u).all (·.oneCell') = true := fun u => recA_all _ _ (slV_one u).1
  have hfs := hv3
  have cS2 : ∀ (u u' : Value) w, RdV w 1 u (decI ⟨b2, 0⟩).length (valsL .u64 (decI ⟨b2, 0⟩)) → RdV w 1 u' (decI ⟨b2, 0⟩).length (valsL .u64 (decI ⟨b2, 0⟩)) → Calls Try.prog 11 #[.agg ((fun u => recA (decR ⟨b2, 0⟩) (slV u)) u), .agg ((fun u => recA (decR ⟨b2, 0⟩) (slV u)) u')] w fun r w' => r = .returned (.bool true) ∧ Below w.heap.size w w' := cS
  clear cS hok hlen hl2
  generalize (fun u => recA (decR ⟨b2, 0⟩) (slV u)) = G at *
  generalize decI ⟨b2, 0⟩ = ids at *
  generalize errR ⟨b2, 0⟩ = E at *
  refine calls_tri Try.func6 rfl Try.ntmps6 rfl ?_
  repeat (first | (show Walk1 _ _ _ (_ :: _) _ _; first | (show Walk1 _ _ _ (⟨_, _, _, _, _, some _⟩ :: _) _ _; refine walk1_yes rfl rfl (by first | exact decide_eq_true (by omega) | exact decide_eq_false (by omega) | rfl | (show _ = true; with_reducible assumption) | (show _ = false; with_reducible assumption) | (simp <;> fail) | omega) ?_) | (show Walk1 _ _ _ (⟨_, .move _, _, _, _, _⟩ :: _) _ _; refine walk1_t (op_move rfl rfl rfl rfl) ?_) | (show Walk1 _ _ _ (⟨_, .assign _, _, _, _, _⟩ :: _) _ _; refine walk1_t (op_assign rfl rfl rfl rfl) ?_) | (show Walk1 _ _ _ (⟨_, .binOp .eql _ _ _ _, _, _, _, _⟩ :: _) _ _; refine walk1_t (op_eqI rfl rfl rfl rfl rfl) ?_) | (show Walk1 _ _ _ (⟨_, .pick _ _ _, _, _, _, _⟩ :: _) _ _; refine walk1_t (op_pickY rfl rfl rfl rfl (by first | exact decide_eq_true (by omega) | exact decide_eq_false (by omega) | rfl | (show _ = true; with_reducible assumption) | (show _ = false; with_reducible assumption) | (simp <;> fail) | omega) rfl) ?_) | (show Walk1 _ _ _ (⟨_, .load _ _, _, _, _, _⟩ :: _) _ _; refine walk1_t (op_loadsG rfl rfl rfl rfl rfl rfl rfl rfl (by with_reducible assumption)) ?_) | (show Walk1 _ _ _ (⟨_, .store _ _ _, _, _, _, _⟩ :: _) _ _; refine walk1_b (op_storeG rfl rfl rfl rfl rfl rfl rfl (by with_reducible assumption) (by with_reducible assumption)) ?_) | (show Walk1 _ _ _ (⟨_, .alloc _, _, _, _, _⟩ :: _) _ _; refine walk1_n (op_alloc rfl rfl rfl rfl rfl) (by kernel_rfl) ?_) | (show Walk1 _ _ _ (⟨_, .extract _ _, _, _, _, _⟩ :: _) _ _; refine walk1_t (op_extract rfl rfl rfl rfl rfl) ?_) | (show Walk1 _ _ _ (⟨_, .call ⟨.builtin .len, _, _⟩, _, _, _, _⟩ :: _) _ _; refine walk1_t (op_lenF rfl rfl rfl (by first | assumption | exact FS.rd (by first | assumption | exact FSX.fs (by assumption) | (refine FS.cutB (by assumption) ?_; omega) | (refine FS.cut (by assumption) ?_; omega)))) ?_) | (show Walk1 _ _ _ (⟨_, .call ⟨.builtin .min, _, _⟩, _, _, _, _⟩ :: _) _ _; refine walk1_t (op_minN rfl (by first | exact evN_const rfl | exact rfl) (by first | exact evN_const rfl | exact rfl)) ?_) | (show Walk1 _ _ _ (⟨_, .slice _ _ _ _ _, _, _, _, _⟩ :: _) _ _; refine walk1_t (op_cutF rfl rfl rfl rfl rfl rfl) ?_) | (show Walk1 _ _ _ (⟨_, .call ⟨.value (.func 24), _, _⟩, _, _, _, _⟩ :: _) _ _; (refine walk1_callG rfl rfl rfl rfl (by kernel_rfl) (by repeat (first | exact evs_nil | apply evs_cons rfl)) rfl ?_; refine ⟨_, _, _, _, _, _, _, callG_f ((by first | exact fsq_own rfl | exact fsq_osub rfl | exact fsq_subU rfl (by omega) rfl | exact fsq_ones rfl rfl (by omega) | exact fsq_one rfl (by omega) | exact fsq_lit rfl (by repeat (first | exact litl_nil | apply litl_bv | refine litl_z rfl ?_)) rfl (by omega) | exact fsq_whole rfl (by first | (with_reducible assumption) | rfl | (simp <;> fail) | omega) (by omega) | exact fsq_old (by first | assumption | exact fsx_of (by assumption) (by omega) | exact FSX.cutB (by assumption) (by omega) | exact fsx_of (FS.cutB (by assumption) (by omega)) (by omega)) | exact fsq_nil)) (fun e w h1 => cD w h1), ?_⟩)) | (show Walk1 _ _ _ (⟨_, .call ⟨.value (.func 25), _, _⟩, _, _, _, _⟩ :: _) _ _; (refine walk1_callG rfl rfl rfl rfl (by kernel_rfl) (by repeat (first | exact evs_nil | apply evs_cons rfl)) rfl ?_; refine ⟨_, _, _, _, _, _, _, callG_f ((by first | exact fsq_own rfl | exact fsq_osub rfl | exact fsq_subU rfl (by omega) rfl | exact fsq_ones rfl rfl (by omega) | exact fsq_one rfl (by omega) | exact fsq_lit rfl (by repeat (first | exact litl_nil | apply litl_bv | refine litl_z rfl ?_)) rfl (by omega) | exact fsq_whole rfl (by first | (with_reducible assumption) | rfl | (simp <;> fail) | omega) (by omega) | exact fsq_old (by first | assumption | exact fsx_of (by assumption) (by omega) | exact FSX.cutB (by assumption) (by omega) | exact fsx_of (FS.cutB (by assumption) (by omega)) (by omega)) | exact fsq_nil)) (fun e w h1 => cR w h1), ?_⟩)) | (show Walk1 _ _ _ (⟨_, .call ⟨.value (.func 11), _, _⟩, _, _, _, _⟩ :: _) _ _; (refine walk1_callM rfl rfl rfl rfl (by repeat (first | exact evs_nil | apply evs_cons rfl)) rfl ?_; refine ⟨_, _, callM_2 (rdn_own (n := 14) rfl) (rdn_own (n := 19) rfl) (fun e w h1 h2 => cS2 _ _ w h1 h2), ?_⟩)) | (show Walk1 _ _ _ (⟨_, .call ⟨.value (.func 12), _, _⟩, _, _, _, _⟩ :: _) _ _; ((first | refine walk1_call rfl rfl rfl rfl (by repeat (first | exact evs_nil | apply evs_cons rfl)) rfl ?_ | refine walk1_call0 rfl rfl rfl (by repeat (first | exact evs_nil | apply evs_cons rfl)) rfl ?_); refine ⟨_, fun e w => cw w, ?_⟩))) | refine go1 ?_ | refine end_block_other rfl ?_ | refine end_scope (fun _ h => by cases h) ?_ | (refine walk_endD ?_ ?_; (· kernel_rfl)) | refine tri_yesA rfl ?_ | refine tri_noA rfl ?_ | refine tri_trueA rfl ?_ | refine tri_falseA rfl ?_)
  refine end_ret _ (res_tmp rfl rfl) ?_
  exact fin_below fun _ => congrArg Value.bool (by simp)
end Go.Proofs.Ytlhedoodbadmgaa
