/- A record made, by the document: walked. No condition. -/
import Derived.Test.YtihbiejgebmeaaaRecM7
import Derived.Test.YtihbiejgebmeaaaRecMCD
import Derived.Test.YtihbiejgebmeaaaRecS1
import Derived.Test.YtihbiejgebmeaaaRec7
namespace Go.Proofs.Ytihbiejgebmeaaa
open Go.RowKit
set_option maxRecDepth 100000
set_option maxHeartbeats 4000000
def head29 (l : Int) (V : ViewS) (n : StepS) (s : ScnR) (u : Value) : Array Value := headR l V n ++ #[u, .int .u32 (bvi s.label), .int .u32 (bvi s.frm), .int .u32 (bvi s.til)]
theorem head29_size (l : Int) (V : ViewS) (n : StepS) (s : ScnR) (u : Value) : (head29 l V n s u).size = 29 := by
  unfold head29
  rw [Array.size_append, headR_size]
  rfl
theorem made_partsR (l : Int) (V : ViewS) (n : StepS) (s : ScnR) (a b : List (BitVec 8)) (u : Value) : recA (rMade l V n s a b) u = head29 l V n s u ++ (vals .u8 a ++ vals .u8 b) := by
  apply Array.ext'
  simp [recA, rMade, headR, head29]
def madeR (l : Int) (V : ViewS) (n : StepS) (s : ScnR) (file : List (BitVec 8)) (u : Value) : Array Value := if recE (rMade l V n s Z32 Z32) = 0 then recA (rMade l V n s (shaL (wZ s.z)) (shaL file)) u else recA zRec6 (.slice none 0 0)
attribute [local irreducible] Calls Walk1 WalkTo Tri EndA
theorem refMake31_any (l : Int) (V : ViewS) (n : StepS) (s : ScnR) (hs : s.ok) (v : ScnV) (file : List (BitVec 8)) (hfl : file.length ≤ 1000) (vf : Value) (w : World) (hr : ScnRd w s v) (hf : FS w 1 vf file.length (valsL .u8 file)) :
    Calls Try.prog 7 #[.int .i64 l, .agg V.c, .agg (scnA s v), .agg n.c, vf] w fun e w' => e = .returned (.tuple #[.agg (madeR l V n s file v.i), .int .i64 (recE (rMade l V n s Z32 Z32))]) ∧ Below w.heap.size w w' := by
  have cE := fun (w : World) (h : ScnRd w s v) => refEnc19_any s hs v w h
  have hli := hs.lids
  obtain ⟨dF, cF, rfl, gF⟩ := hf.2
  have rF := hf.rd
  obtain ⟨vT, vM, vX, vL, vI, vB⟩ := v
  have rI : RdV w 1 vI s.ids.length (valsL .u64 s.ids) := hr.i
  obtain ⟨_, dI, cI, rfl, _⟩ := id rI
  have hzl : (wZ s.z).length ≤ 100000 := by
    have := scn_zlen s hs
    rw [wZ_length]
    omega
  have s1 := fun v w h => refSum_any v (wZ s.z).length (wZ s.z) w h (by omega)
  have s2 := fun v w h => refSum_any v file.length file w h (by omega)
  have hok0 : (rMade l V n s Z32 Z32).ok := Z32_ok
  have hok1 : (rMade l V n s (shaL (wZ s.z)) (shaL file)).ok := ⟨shaL_length _, shaL_length _⟩
  have l1 := shaL_length (wZ s.z)
  have l2 := shaL_length file
  have hgI0 : recE (rMade l V n s Z32 Z32) = 0 → madeR l V n s file (.slice dI s.ids.length cI) = recA (rMade l V n s (shaL (wZ s.z)) (shaL file)) (.slice dI s.ids.length cI) := fun h => if_pos h
  have hgI1 : recE (rMade l V n s Z32 Z32) ≠ 0 → madeR l V n s file (.slice dI s.ids.length cI) = recA zRec6 (.slice none 0 0) := fun h => if_neg h
  have hG1 := recA_sz6 (rMade l V n s Z32 Z32) hok0 (.slice dI s.ids.length cI)
  have hG2 := recA_all6 (rMade l V n s Z32 Z32) (.slice dI s.ids.length cI) rfl
  have hH1 := recA_sz6 _ hok1 (.slice dI s.ids.length cI)
  have hH2 := recA_all6 (rMade l V n s (shaL (wZ s.z)) (shaL file)) (.slice dI s.ids.length cI) rfl
  have hck : ∀ w, Calls Try.prog 16 #[.agg (recA (rMade l V n s Z32 Z32) (.slice dI s.ids.length cI))] w fun r w' => r = .returned (.int .i64 (recE (rMade l V n s Z32 Z32))) ∧ Below w.heap.size w w' := fun w =>
    refRecCheck_any (rMade l V n s Z32 Z32) (.slice dI s.ids.length cI) (recA (rMade l V n s Z32 Z32) (.slice dI s.ids.length cI)) s.ids.length ⟨dI, cI, rfl⟩ (by omega) (recF (rMade l V n s Z32 Z32) hok0 _) w
  have hGp := made_partsR l V n s Z32 Z32 (.slice dI s.ids.length cI)
  have hHp := made_partsR l V n s (shaL (wZ s.z)) (shaL file) (.slice dI s.ids.length cI)
  have hP29 := head29_size l V n s (.slice dI s.ids.length cI)
  have hzl2 : Z32.length = 32 := by unfold Z32; exact List.length_replicate
  have hfill : ∀ u, u = recA (rMade l V n s Z32 Z32) (.slice dI s.ids.length cI) → recA (rMade l V n s Z32 Z32) (.slice dI s.ids.length cI) = u := fun u h => h.symm
  clear hok0 hok1
  obtain ⟨R0, hR0⟩ : ∃ R, R = recA (rMade l V n s Z32 Z32) (.slice dI s.ids.length cI) := ⟨_, rfl⟩
  rw [← hR0] at hG1 hG2 hck hGp
  generalize hR1 : recA (rMade l V n s (shaL (wZ s.z)) (shaL file)) (.slice dI s.ids.length cI) = R1 at *
  unfold scnA at *
  dsimp only at cE ⊢
  generalize hEd : recE (rMade l V n s Z32 Z32) = E at *
  generalize hS1 : shaL (wZ s.z) = S1 at *
  generalize hS2 : shaL file = S2 at *
  generalize hZ : wZ s.z = ZZ at *
  have hVs : V.c.size = 21 := rfl
  have hVo : V.c.all (·.oneCell') = true := by kernel_rfl
  have hns : n.c.size = 3 := rfl
  have hno : n.c.all (·.oneCell') = true := by kernel_rfl
  generalize hVC : V.c = VC at *
  generalize hNC : n.c = NC at *
  generalize hHD : head29 l V n s (.slice dI s.ids.length cI) = HD at *
  clear hfill hS1 hS2 hZ hR1
  by_cases h2 : E = 0
  · have k1 := hgI0 h2
    rw [k1, h2]
    rw [h2] at hck
    clear hgI0 hgI1 k1
    refine calls_tri Try.func7 rfl Try.ntmps7 rfl ?_
    iterate 12 (try (first | (show Walk1 _ _ _ (_ :: _) _ _; first | (show Walk1 _ _ _ (⟨_, .move _, _, _, _, _⟩ :: _) _ _; refine walk1_t (op_move rfl rfl rfl rfl) ?_) | (show Walk1 _ _ _ (⟨_, .assign _, _, _, _, _⟩ :: _) _ _; refine walk1_t (op_assignN rfl rfl rfl rfl) ?_) | (show Walk1 _ _ _ (⟨_, .alloc _, _, _, _, _⟩ :: _) _ _; refine walk1_n (op_alloc rfl rfl rfl rfl rfl) (by kernel_rfl) ?_) | (show Walk1 _ _ _ (⟨_, .box _ _, _, _, _, _⟩ :: _) _ _; refine walk1_n (op_box rfl rfl rfl rfl rfl) (by kernel_rfl) ?_)) | refine go1 ?_ | refine end_block_other rfl ?_ | refine end_scope (fun _ h => by cases h) ?_ | (refine walk_endD ?_ ?_; (· kernel_rfl)) | refine tri_yesA rfl ?_ | refine tri_noA rfl ?_ | refine tri_trueA rfl ?_ | refine tri_falseA rfl ?_))
    refine walk1_t (op_loadsC rfl rfl rfl rfl rfl rfl rfl rfl (sm_c hVs) ag_c) ?_
    refine walk1_t (op_loadsC rfl rfl rfl rfl rfl rfl rfl rfl (sm_c hns) ag_c) ?_
    repeat (first | (show Walk1 _ _ _ (_ :: _) _ _; first | (show Walk1 _ _ _ (⟨_, .load _ _, _, _, _, _⟩ :: _) _ _; refine walk1_t (op_load rfl rfl rfl rfl rfl rfl rfl) ?_) | (show Walk1 _ _ _ (⟨_, .fieldAddr _ _ _, _, _, _, _⟩ :: _) _ _; refine walk1_t (op_fldT rfl rfl rfl rfl rfl rfl off_zero) ?_)) | refine go1 ?_ | refine end_block_other rfl ?_ | refine end_scope (fun _ h => by cases h) ?_ | (refine walk_endD ?_ ?_; (· kernel_rfl)) | refine tri_yesA rfl ?_ | refine tri_noA rfl ?_ | refine tri_trueA rfl ?_ | refine tri_falseA rfl ?_)
    refine walk1_t (op_buildC (parts := [(0, .tmp 14), (1, .tmp 15), (2, .tmp 16), (3, .tmp 18), (4, .tmp 20), (5, .tmp 22), (6, .tmp 24)]) (vs := [.int .i64 l, .agg VC, .agg NC, .slice dI s.ids.length cI, .int .u32 (bvi s.label), .int .u32 (bvi s.frm), .int .u32 (bvi s.til)]) R0 rfl rfl rfl rfl rfl rfl (by kernel_rfl) (by subst hVC hNC hR0; kernel_rfl)) ?_
    clear hR0
    iterate 1 (try (first | (show Walk1 _ _ _ (_ :: _) _ _; (show Walk1 _ _ _ (⟨_, .alloc _, _, _, _, _⟩ :: _) _ _; refine walk1_n (op_alloc rfl rfl rfl rfl rfl) (by kernel_rfl) ?_)) | refine go1 ?_ | refine end_block_other rfl ?_ | refine end_scope (fun _ h => by cases h) ?_ | (refine walk_endD ?_ ?_; (· kernel_rfl)) | refine tri_yesA rfl ?_ | refine tri_noA rfl ?_ | refine tri_trueA rfl ?_ | refine tri_falseA rfl ?_))
    refine walk1_b (op_storesC rfl rfl rfl rfl rfl rfl rfl hG1 hG2 (sm_c (by kernel_rfl))) ?_
    iterate 17 (try (first | (show Walk1 _ _ _ (_ :: _) _ _; first | (show Walk1 _ _ _ (⟨_, .move _, _, _, _, _⟩ :: _) _ _; refine walk1_t (op_move rfl rfl rfl rfl) ?_) | (show Walk1 _ _ _ (⟨_, .assign _, _, _, _, _⟩ :: _) _ _; refine walk1_t (op_assign rfl rfl rfl rfl) ?_) | (show Walk1 _ _ _ (⟨_, .binOp .neq _ _ _ _, _, _, _, _⟩ :: _) _ _; refine walk1_t (op_neN rfl rfl rfl (by first | exact evN_const rfl | exact rfl) (by first | exact evN_const rfl | exact rfl)) ?_) | (show Walk1 _ _ _ (⟨_, .load _ _, _, _, _, _⟩ :: _) _ _; refine walk1_t (op_loads rfl rfl rfl rfl rfl rfl rfl rfl) ?_) | (show Walk1 _ _ _ (⟨_, .call ⟨.value (.func 16), _, _⟩, _, _, _, _⟩ :: _) _ _; ((first | refine walk1_call rfl rfl rfl rfl (by repeat (first | exact evs_nil | apply evs_cons rfl)) rfl ?_ | refine walk1_call0 rfl rfl rfl (by repeat (first | exact evs_nil | apply evs_cons rfl)) rfl ?_); refine ⟨_, fun e w => hck w, ?_⟩))) | refine go1 ?_ | refine end_block_other rfl ?_ | refine end_scope (fun _ h => by cases h) ?_ | (refine walk_endD ?_ ?_; (· kernel_rfl)) | refine tri_yesA rfl ?_ | refine tri_noA rfl ?_ | refine tri_trueA rfl ?_ | refine tri_falseA rfl ?_))
    refine tri_ent (ent_blkA 12 ((SA.c HD).app ((SA.c (vals .u8 Z32)).app (SA.c (vals .u8 Z32)))) rfl (fun _ => hGp)) ?_
    generalize Z32 = Z3 at *
    clear hGp hG1 hG2 hck hEd
    iterate 19 (try (first | (show Walk1 _ _ _ (_ :: _) _ _; first | (show Walk1 _ _ _ (⟨_, .move _, _, _, _, _⟩ :: _) _ _; refine walk1_t (op_move rfl rfl rfl rfl) ?_) | (show Walk1 _ _ _ (⟨_, .load _ _, _, _, _, _⟩ :: _) _ _; refine walk1_t (op_loads rfl rfl rfl rfl rfl rfl rfl rfl) ?_) | (show Walk1 _ _ _ (⟨_, .store _ _ _, _, _, _, _⟩ :: _) _ _; refine walk1_b (op_storesM rfl rfl rfl rfl rfl rfl rfl) ?_) | (show Walk1 _ _ _ (⟨_, .fieldAddr _ _ _, _, _, _, _⟩ :: _) _ _; refine walk1_t (op_fldT rfl rfl rfl rfl rfl rfl off_zero) ?_) | (show Walk1 _ _ _ (⟨_, .call ⟨.value (.func 18), _, _⟩, _, _, _, _⟩ :: _) _ _; (refine walk1_callO rfl rfl rfl rfl (by kernel_rfl) (by repeat (first | exact evs_nil | apply evs_cons rfl)) rfl ?_; refine ⟨[], _, _, _, _, (fun S2 e a w hS hq => cE w (hr.kept fun b hb => hS.frame.block b hb (by simp))), ?_⟩)) | (show Walk1 _ _ _ (⟨_, .call ⟨.value (.func 17), _, _⟩, _, _, _, _⟩ :: _) _ _; (refine walk1_callM rfl rfl rfl rfl (by repeat (first | exact evs_nil | apply evs_cons rfl)) rfl ?_; refine ⟨_, _, callM_1 (rdn_own (n := 33) rfl) (fun e w h1 => s1 _ w h1), ?_⟩)) | (show Walk1 _ _ _ (⟨_, .call ⟨.value (.func 17), _, _⟩, _, _, _, _⟩ :: _) _ _; (refine walk1_callM rfl rfl rfl rfl (by repeat (first | exact evs_nil | apply evs_cons rfl)) rfl ?_; refine ⟨_, _, callM_1 ((by first | exact rdn_one rfl | exact rdn_ones rfl rfl | exact rdn_own rfl | exact rdn_osub rfl | exact rdn_whole rfl (by first | omega | (simp; omega) | (simp <;> fail) | omega) | exact rdn_sub rfl (by first | omega | decide) | exact rdn_blk rfl (by first | omega | (simp; omega) | (simp <;> fail) | omega) | exact rdn_lit rfl (by repeat (first | exact litl_nil | apply litl_bv | refine litl_z rfl ?_)) rfl | exact rdn_oldX (by assumption) | exact rdn_oldR (by assumption) | exact rdn_oldX (FSX.cutB (by assumption) (by omega)) | exact rdn_old (by assumption) (by omega) rfl | exact rdn_old (FS.rd (by first | assumption | exact FSX.fs (by assumption) | (refine FS.cutB (by assumption) ?_; omega) | (refine FS.cut (by assumption) ?_; omega))) (by omega) rfl | exact rdn_nil)) (fun e w h1 => s2 _ w h1), ?_⟩))) | refine go1 ?_ | refine end_block_other rfl ?_ | refine end_scope (fun _ h => by cases h) ?_ | (refine walk_endD ?_ ?_; (· kernel_rfl)) | refine tri_yesA rfl ?_ | refine tri_noA rfl ?_ | refine tri_trueA rfl ?_ | refine tri_falseA rfl ?_))
    refine tri_ent (ent_blkA 12 (.c R1) rfl (fun _ => hHp.symm)) ?_
    clear hHp s1 s2 cE
    repeat (first | (show Walk1 _ _ _ (_ :: _) _ _; (show Walk1 _ _ _ (⟨_, .load _ _, _, _, _, _⟩ :: _) _ _; refine walk1_t (op_loads rfl rfl rfl rfl rfl rfl rfl rfl) ?_)) | refine go1 ?_ | refine end_block_other rfl ?_ | refine end_scope (fun _ h => by cases h) ?_ | (refine walk_endD ?_ ?_; (· kernel_rfl)) | refine tri_yesA rfl ?_ | refine tri_noA rfl ?_ | refine tri_trueA rfl ?_ | refine tri_falseA rfl ?_)
    refine walk1_b (op_storesC rfl rfl rfl rfl rfl rfl rfl hH1 hH2 (sm_c (by kernel_rfl))) ?_
    repeat (first | (show Walk1 _ _ _ (_ :: _) _ _; (show Walk1 _ _ _ (⟨_, .assign _, _, _, _, _⟩ :: _) _ _; refine walk1_t (op_assignN rfl rfl rfl rfl) ?_)) | refine go1 ?_ | refine end_block_other rfl ?_ | refine end_scope (fun _ h => by cases h) ?_ | (refine walk_endD ?_ ?_; (· kernel_rfl)) | refine tri_yesA rfl ?_ | refine tri_noA rfl ?_ | refine tri_trueA rfl ?_ | refine tri_falseA rfl ?_)
    refine end_ret _ (res_cellT rfl rfl rfl rfl rfl rfl rfl hH1) ?_
    exact fin_below fun _ => rfl
  · have k1 := hgI1 h2
    rw [k1]
    clear hgI0 hgI1 k1 hHp
    refine calls_tri Try.func7 rfl Try.ntmps7 rfl ?_
    iterate 12 (try (first | (show Walk1 _ _ _ (_ :: _) _ _; first | (show Walk1 _ _ _ (⟨_, .move _, _, _, _, _⟩ :: _) _ _; refine walk1_t (op_move rfl rfl rfl rfl) ?_) | (show Walk1 _ _ _ (⟨_, .assign _, _, _, _, _⟩ :: _) _ _; refine walk1_t (op_assignN rfl rfl rfl rfl) ?_) | (show Walk1 _ _ _ (⟨_, .alloc _, _, _, _, _⟩ :: _) _ _; refine walk1_n (op_alloc rfl rfl rfl rfl rfl) (by kernel_rfl) ?_) | (show Walk1 _ _ _ (⟨_, .box _ _, _, _, _, _⟩ :: _) _ _; refine walk1_n (op_box rfl rfl rfl rfl rfl) (by kernel_rfl) ?_)) | refine go1 ?_ | refine end_block_other rfl ?_ | refine end_scope (fun _ h => by cases h) ?_ | (refine walk_endD ?_ ?_; (· kernel_rfl)) | refine tri_yesA rfl ?_ | refine tri_noA rfl ?_ | refine tri_trueA rfl ?_ | refine tri_falseA rfl ?_))
    refine walk1_t (op_loadsC rfl rfl rfl rfl rfl rfl rfl rfl (sm_c hVs) ag_c) ?_
    refine walk1_t (op_loadsC rfl rfl rfl rfl rfl rfl rfl rfl (sm_c hns) ag_c) ?_
    repeat (first | (show Walk1 _ _ _ (_ :: _) _ _; first | (show Walk1 _ _ _ (⟨_, .load _ _, _, _, _, _⟩ :: _) _ _; refine walk1_t (op_load rfl rfl rfl rfl rfl rfl rfl) ?_) | (show Walk1 _ _ _ (⟨_, .fieldAddr _ _ _, _, _, _, _⟩ :: _) _ _; refine walk1_t (op_fldT rfl rfl rfl rfl rfl rfl off_zero) ?_)) | refine go1 ?_ | refine end_block_other rfl ?_ | refine end_scope (fun _ h => by cases h) ?_ | (refine walk_endD ?_ ?_; (· kernel_rfl)) | refine tri_yesA rfl ?_ | refine tri_noA rfl ?_ | refine tri_trueA rfl ?_ | refine tri_falseA rfl ?_)
    refine walk1_t (op_buildC (parts := [(0, .tmp 14), (1, .tmp 15), (2, .tmp 16), (3, .tmp 18), (4, .tmp 20), (5, .tmp 22), (6, .tmp 24)]) (vs := [.int .i64 l, .agg VC, .agg NC, .slice dI s.ids.length cI, .int .u32 (bvi s.label), .int .u32 (bvi s.frm), .int .u32 (bvi s.til)]) R0 rfl rfl rfl rfl rfl rfl (by kernel_rfl) (by subst hVC hNC hR0; kernel_rfl)) ?_
    clear hR0
    iterate 1 (try (first | (show Walk1 _ _ _ (_ :: _) _ _; (show Walk1 _ _ _ (⟨_, .alloc _, _, _, _, _⟩ :: _) _ _; refine walk1_n (op_alloc rfl rfl rfl rfl rfl) (by kernel_rfl) ?_)) | refine go1 ?_ | refine end_block_other rfl ?_ | refine end_scope (fun _ h => by cases h) ?_ | (refine walk_endD ?_ ?_; (· kernel_rfl)) | refine tri_yesA rfl ?_ | refine tri_noA rfl ?_ | refine tri_trueA rfl ?_ | refine tri_falseA rfl ?_))
    refine walk1_b (op_storesC rfl rfl rfl rfl rfl rfl rfl hG1 hG2 (sm_c (by kernel_rfl))) ?_
    clear hGp
    repeat (first | (show Walk1 _ _ _ (_ :: _) _ _; first | (show Walk1 _ _ _ (⟨_, .move _, _, _, _, _⟩ :: _) _ _; refine walk1_t (op_move rfl rfl rfl rfl) ?_) | (show Walk1 _ _ _ (⟨_, .assign _, _, _, _, _⟩ :: _) _ _; refine walk1_t (op_assign rfl rfl rfl rfl) ?_) | (show Walk1 _ _ _ (⟨_, .binOp .neq _ _ _ _, _, _, _, _⟩ :: _) _ _; refine walk1_t (op_neI rfl rfl rfl rfl rfl) ?_) | (show Walk1 _ _ _ (⟨_, .load _ _, _, _, _, _⟩ :: _) _ _; refine walk1_t (op_loads rfl rfl rfl rfl rfl rfl rfl rfl) ?_) | (show Walk1 _ _ _ (⟨_, .call ⟨.value (.func 16), _, _⟩, _, _, _, _⟩ :: _) _ _; ((first | refine walk1_call rfl rfl rfl rfl (by repeat (first | exact evs_nil | apply evs_cons rfl)) rfl ?_ | refine walk1_call0 rfl rfl rfl (by repeat (first | exact evs_nil | apply evs_cons rfl)) rfl ?_); refine ⟨_, fun e w => hck w, ?_⟩))) | refine go1 ?_ | refine end_block_other rfl ?_ | refine end_scope (fun _ h => by cases h) ?_ | (refine walk_endD ?_ ?_; (· kernel_rfl)) | refine tri_yesA rfl ?_ | refine tri_noA rfl ?_ | refine tri_trueA rfl ?_ | refine tri_falseA rfl ?_)
    refine walk1_t (op_buildC (parts := []) (vs := []) (recA zRec6 (.slice none 0 0)) rfl rfl rfl rfl rfl rfl (by kernel_rfl) (by kernel_rfl)) ?_
    iterate 1 (try (first | (show Walk1 _ _ _ (_ :: _) _ _; (show Walk1 _ _ _ (⟨_, .move _, _, _, _, _⟩ :: _) _ _; refine walk1_t (op_move rfl rfl rfl rfl) ?_)) | refine go1 ?_ | refine end_block_other rfl ?_ | refine end_scope (fun _ h => by cases h) ?_ | (refine walk_endD ?_ ?_; (· kernel_rfl)) | refine tri_yesA rfl ?_ | refine tri_noA rfl ?_ | refine tri_trueA rfl ?_ | refine tri_falseA rfl ?_))
    refine walk1_b (op_storesC rfl rfl rfl rfl rfl rfl rfl (by kernel_rfl) (by kernel_rfl) (sm_c (by kernel_rfl))) ?_
    repeat (first | (show Walk1 _ _ _ (_ :: _) _ _; (show Walk1 _ _ _ (⟨_, .assign _, _, _, _, _⟩ :: _) _ _; refine walk1_t (op_assign rfl rfl rfl rfl) ?_)) | refine go1 ?_ | refine end_block_other rfl ?_ | refine end_scope (fun _ h => by cases h) ?_ | (refine walk_endD ?_ ?_; (· kernel_rfl)) | refine tri_yesA rfl ?_ | refine tri_noA rfl ?_ | refine tri_trueA rfl ?_ | refine tri_falseA rfl ?_)
    refine end_ret _ (res_cellT rfl rfl rfl rfl rfl rfl rfl (by kernel_rfl)) ?_
    exact fin_below fun _ => rfl
end Go.Proofs.Ytihbiejgebmeaaa
