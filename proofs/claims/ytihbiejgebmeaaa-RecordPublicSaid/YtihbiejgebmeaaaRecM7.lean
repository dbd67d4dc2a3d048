/- A record made, by the program: walked. No condition. -/
import Derived.Test.YtihbiejgebmeaaaRecM6
import Derived.Test.YtihbiejgebmeaaaRecM2
import Derived.Test.YtihbiejgebmeaaaRecZCD
namespace Go.Proofs.Ytihbiejgebmeaaa
open Go.RowKit
set_option maxRecDepth 100000
set_option maxHeartbeats 4000000
theorem ScnRd.kept {w0 w : World} {s : ScnR} {v : ScnV} (h : ScnRd w0 s v) (hb : ∀ b, b < w0.heap.size → w.heap[b]? = w0.heap[b]?) : ScnRd w s v :=
  ⟨h.t.later (by omega) hb, h.m.later (by omega) hb, h.x.later (by omega) hb, fun t ht => (h.px t ht).later (by omega) hb, h.l.later (by omega) hb, h.i.later (by omega) hb, h.b.later (by omega) hb⟩
theorem scn_zlen (s : ScnR) (h : s.ok) : s.z.length ≤ 4000 := by
  have h1 := fm_len TriR.z s.tris 19 (fun t _ => Nat.le_of_eq t.z_len) s.tris.length
  have h2 := fm_len MatR.z s.mats 5 (fun t _ => Nat.le_of_eq t.z_len) s.mats.length
  have h3 := fm_len TexR.z s.texs 782 (fun t ht => by
    have := (h.texs t ht).2.1
    simp only [TexR.z, List.length_append, pxZ_len, List.length_cons, List.length_nil]
    omega) s.texs.length
  have h4 := fm_len LitR.z s.lits 13 (fun t _ => Nat.le_of_eq t.z_len) s.lits.length
  rw [List.take_length] at h1 h2 h3 h4
  have := h.ltris
  have := h.lmats
  have := h.ltexs
  have := h.llits
  have := h.lids
  have := h.llabs
  simp only [ScnR.z, List.length_append, List.length_map, List.length_cons, List.length_nil]
  omega
def headR (l : Int) (V : ViewS) (n : StepS) : Array Value := #[.int .i64 l] ++ V.c ++ n.c
theorem headR_size (l : Int) (V : ViewS) (n : StepS) : (headR l V n).size = 25 := by
  unfold headR
  rw [Array.size_append, Array.size_append]
  rfl
theorem made_parts (l : Int) (V : ViewS) (n : StepS) (s : ScnR) (a b : List (BitVec 8)) (u : Value) : recA (rMade l V n s a b) u = headR l V n ++ (#[u] ++ (#[.int .u32 (bvi s.label), .int .u32 (bvi s.frm), .int .u32 (bvi s.til)] ++ (vals .u8 a ++ vals .u8 b))) := by
  apply Array.ext'
  simp [recA, rMade, headR]
/-- What is handed back of a record made. -/
def madeG (l : Int) (V : ViewS) (n : StepS) (s : ScnR) (file : List (BitVec 8)) : Value → Array Value := fun u => if recE (rMade l V n s Z32 Z32) = 0 then recA (rMade l V n s (shaL (wZ s.z)) (shaL file)) (slV u) else recA zRec6 (.slice none 0 0)
def madeI (l : Int) (V : ViewS) (n : StepS) (s : ScnR) : List (BitVec 64) := if recE (rMade l V n s Z32 Z32) = 0 then s.ids else []
attribute [local irreducible] Calls Walk1 WalkTo Tri EndA
theorem make31_any (l : Int) (V : ViewS) (n : StepS) (s : ScnR) (hs : s.ok) (v : ScnV) (file : List (BitVec 8)) (hfl : file.length ≤ 1000) (vf : Value) (w : World) (hr : ScnRd w s v) (hf : FS w 1 vf file.length (valsL .u8 file)) :
    Calls Try.prog 6 #[.int .i64 l, .agg V.c, .agg (scnA s v), .agg n.c, vf] w (RetG w 27 1 (madeI l V n s).length (valsL .u64 (madeI l V n s)) (madeG l V n s file) (.int .i64 (recE (rMade l V n s Z32 Z32)))) := by
  have cE := fun (w : World) (h : ScnRd w s v) => projEnc_any s hs v w h
  skip
  have cl := fun w h => clone64_any v.i s.ids w h (by have := hs.lids; omega)
  have hli := hs.lids
  obtain ⟨dF, cF, rfl, gF⟩ := hf.2
  have rI := hr.i
  have hzl : (wZ s.z).length ≤ 100000 := by
    have := scn_zlen s hs
    rw [wZ_length]
    omega
  have s1 := fun v w h => shaSum_any v [wZ s.z] w h (by simp; omega) (by simp)
  have s2 := fun v w h => shaSum_any v [file] w h (by simp; omega) (by simp)
  have f1 : [wZ s.z].flatten = wZ s.z := by simp
  have f2 : [file].flatten = file := by simp
  rw [f1] at s1
  rw [f2] at s2
  have hok0 : (rMade l V n s Z32 Z32).ok := Z32_ok
  have hok1 : (rMade l V n s (shaL (wZ s.z)) (shaL file)).ok := ⟨shaL_length _, shaL_length _⟩
  have l1 := shaL_length (wZ s.z)
  have l2 := shaL_length file
  have hgI1 : recE (rMade l V n s Z32 Z32) ≠ 0 → madeI l V n s = [] ∧ madeG l V n s file = fun _ => recA zRec6 (.slice none 0 0) := fun h => ⟨if_neg h, funext fun u => if_neg h⟩
  obtain ⟨G, hG⟩ : ∃ G : Value → Array Value, G = fun u => recA (rMade l V n s Z32 Z32) (slV u) := ⟨_, rfl⟩
  obtain ⟨H, hH⟩ : ∃ G : Value → Array Value, G = fun u => recA (rMade l V n s (shaL (wZ s.z)) (shaL file)) (slV u) := ⟨_, rfl⟩
  have hG1 : ∀ u, (G u).size = 93 := fun u => by rw [hG]; exact recA_sz6 _ hok0 _
  have hG2 : ∀ u, (G u).all (·.oneCell') = true := fun u => by rw [hG]; exact recA_all6 _ _ (slV_one u).1
  have hH1 : ∀ u, (H u).size = 93 := fun u => by rw [hH]; exact recA_sz6 _ hok1 _
  have hH2 : ∀ u, (H u).all (·.oneCell') = true := fun u => by rw [hH]; exact recA_all6 _ _ (slV_one u).1
  have hck : ∀ u, (∃ a c, u = .slice a s.ids.length c) → ∀ w, Calls Try.prog 15 #[.agg (recA (rMade l V n s Z32 Z32) u)] w fun r w' => r = .returned (.int .i64 (recE (rMade l V n s Z32 Z32))) ∧ Below w.heap.size w w' := fun u hu w =>
    recCheck_any (rMade l V n s Z32 Z32) u (recA (rMade l V n s Z32 Z32) u) s.ids.length hu (by omega) (recF (rMade l V n s Z32 Z32) hok0 u) w
  have cC : ∀ (e : Env) w, (∃ x c, (e 19).v = .slice x s.ids.length c) → Calls Try.prog 15 #[.agg (G (e 19).v)] w fun r w' => r = .returned (.int .i64 (recE (rMade l V n s Z32 Z32))) ∧ Below w.heap.size w w' := fun e w h => by
    obtain ⟨x, c, hx⟩ := h
    have h5 : ∃ a c, slV (e 19).v = .slice a s.ids.length c := ⟨x, c, by rw [hx]; rfl⟩
    rw [hG]
    dsimp only
    generalize slV (e 19).v = u at *
    exact hck u h5 w
  have hGp : ∀ u, (∃ a c, u = .slice a s.ids.length c) → G u = headR l V n ++ (#[u] ++ (#[.int .u32 (bvi s.label), .int .u32 (bvi s.frm), .int .u32 (bvi s.til)] ++ (vals .u8 Z32 ++ vals .u8 Z32))) := fun u h => by
    obtain ⟨x, c, hx⟩ := h
    have e := slV_slice ⟨x, _, c, hx⟩
    have e2 := congrFun hG u
    rw [e2]
    rw [e]
    exact made_parts l V n s _ _ u
  have hHp : ∀ u, (∃ a c, u = .slice a s.ids.length c) → H u = headR l V n ++ (#[u] ++ (#[.int .u32 (bvi s.label), .int .u32 (bvi s.frm), .int .u32 (bvi s.til)] ++ (vals .u8 (shaL (wZ s.z)) ++ vals .u8 (shaL file)))) := fun u h => by
    obtain ⟨x, c, hx⟩ := h
    have e := slV_slice ⟨x, _, c, hx⟩
    have e2 := congrFun hH u
    rw [e2]
    rw [e]
    exact made_parts l V n s _ _ u
  have hP25 := headR_size l V n
  have hzl2 : Z32.length = 32 := by unfold Z32; exact List.length_replicate
  have hgI0 : recE (rMade l V n s Z32 Z32) = 0 → madeI l V n s = s.ids ∧ madeG l V n s file = H := fun h => ⟨if_pos h, by rw [hH]; exact funext fun u => if_pos h⟩
  clear hH hok0 hok1
  unfold scnA at *
  generalize hEd : recE (rMade l V n s Z32 Z32) = E at *
  generalize hS1 : shaL (wZ s.z) = S1 at *
  generalize hS2 : shaL file = S2 at *
  generalize hZ : wZ s.z = ZZ at *
  have hVs : V.c.size = 21 := rfl
  have hVo : V.c.all (·.oneCell') = true := by kernel_rfl
  have hns : n.c.size = 3 := rfl
  have hno : n.c.all (·.oneCell') = true := by kernel_rfl
  generalize hVC : V.c = VC at *
  generalize hNC : n.c = NC at *
  generalize hHD : headR l V n = HD at *
  by_cases h2 : E = 0
  · obtain ⟨k1, k2⟩ := hgI0 h2
    rw [k1, k2, h2]
    rw [h2] at cC
    clear hgI0 hgI1 k1 k2
    refine calls_tri Try.func6 rfl Try.ntmps6 rfl ?_
    iterate 12 (try (first | (show Walk1 _ _ _ (_ :: _) _ _; first | (show Walk1 _ _ _ (⟨_, .assign _, _, _, _, _⟩ :: _) _ _; refine walk1_t (op_assignN rfl rfl rfl rfl) ?_) | (show Walk1 _ _ _ (⟨_, .alloc _, _, _, _, _⟩ :: _) _ _; refine walk1_n (op_alloc rfl rfl rfl rfl rfl) (by kernel_rfl) ?_) | (show Walk1 _ _ _ (⟨_, .box _ _, _, _, _, _⟩ :: _) _ _; refine walk1_n (op_box rfl rfl rfl rfl rfl) (by kernel_rfl) ?_)) | (show WalkTo _ _ _ _ (_ :: _) _ _ _; (show WalkTo _ _ _ _ (⟨_, .move _, _, _, _, _⟩ :: _) _ _ _; refine walk_t (op_move rfl rfl rfl rfl) ?_)) | refine go1 ?_ | refine end_block_other rfl ?_ | refine end_scope (fun _ h => by cases h) ?_ | (refine walk_endD ?_ ?_; (· kernel_rfl)) | refine tri_yesA rfl ?_ | refine tri_noA rfl ?_ | refine tri_trueA rfl ?_ | refine tri_falseA rfl ?_))
    refine walk_t (op_loadsC rfl rfl rfl rfl rfl rfl rfl rfl (sm_c hVs) ag_c) ?_
    refine walk_t (op_loadsC rfl rfl rfl rfl rfl rfl rfl rfl (sm_c hns) ag_c) ?_
    repeat (first | (show WalkTo _ _ _ _ (_ :: _) _ _ _; first | (show WalkTo _ _ _ _ (⟨_, .load _ _, _, _, _, _⟩ :: _) _ _ _; refine walk_t (op_load rfl rfl rfl rfl rfl rfl rfl) ?_) | (show WalkTo _ _ _ _ (⟨_, .fieldAddr _ _ _, _, _, _, _⟩ :: _) _ _ _; refine walk_t (op_fldT rfl rfl rfl rfl rfl rfl off_zero) ?_) | (show WalkTo _ _ _ _ (⟨_, .call ⟨.value (.func 14), _, _⟩, _, _, _, _⟩ :: _) _ _ _; (refine walk_callO rfl rfl rfl rfl (by kernel_rfl) (by repeat (first | exact evs_nil | apply evs_cons rfl)) rfl ?_; refine ⟨_, _, _, _, _, callO_1 ((by first | exact rdn_one rfl | exact rdn_ones rfl rfl | exact rdn_own rfl | exact rdn_osub rfl | exact rdn_whole rfl (by first | omega | (simp; omega) | (simp <;> fail) | omega) | exact rdn_sub rfl (by first | omega | decide) | exact rdn_blk rfl (by first | omega | (simp; omega) | (simp <;> fail) | omega) | exact rdn_lit rfl (by repeat (first | exact litl_nil | apply litl_bv | refine litl_z rfl ?_)) rfl | exact rdn_oldX (by assumption) | exact rdn_oldR (by assumption) | exact rdn_oldX (FSX.cutB (by assumption) (by omega)) | exact rdn_old (by assumption) (by omega) rfl | exact rdn_old (FS.rd (by first | assumption | exact FSX.fs (by assumption) | (refine FS.cutB (by assumption) ?_; omega) | (refine FS.cut (by assumption) ?_; omega))) (by omega) rfl | exact rdn_nil)) (fun e w h1 => cl w h1), ?_⟩))) | refine go1 ?_ | refine end_block_other rfl ?_ | refine end_scope (fun _ h => by cases h) ?_ | (refine walk_endD ?_ ?_; (· kernel_rfl)) | refine tri_yesA rfl ?_ | refine tri_noA rfl ?_ | refine tri_trueA rfl ?_ | refine tri_falseA rfl ?_)
    refine walk_t (op_buildF (parts := [(0, .tmp 14), (1, .tmp 15), (2, .tmp 16), (3, .tmp 19), (4, .tmp 21), (5, .tmp 23), (6, .tmp 25)]) (svs := [.c (.int .i64 l), .c (.agg VC), .c (.agg NC), .v 19, .c (.int .u32 (bvi s.label)), .c (.int .u32 (bvi s.frm)), .c (.int .u32 (bvi s.til))]) (vs := fun u => [.int .i64 l, .agg VC, .agg NC, u, .int .u32 (bvi s.label), .int .u32 (bvi s.frm), .int .u32 (bvi s.til)]) (q := 19) G rfl rfl rfl rfl rfl (fun _ => rfl) rfl rfl (by kernel_rfl) (fun _ _ => by subst hVC hNC; rw [hG]; kernel_rfl)) ?_
    clear hG
    iterate 2 (try (first | (show WalkTo _ _ _ _ (_ :: _) _ _ _; first | (show WalkTo _ _ _ _ (⟨_, .store _ _ _, _, _, _, _⟩ :: _) _ _ _; refine walk_b (op_storeG rfl rfl rfl rfl rfl rfl rfl (by with_reducible assumption) (by with_reducible assumption)) ?_) | (show WalkTo _ _ _ _ (⟨_, .alloc _, _, _, _, _⟩ :: _) _ _ _; refine walk_n (op_alloc rfl rfl rfl rfl rfl) (by kernel_rfl) ?_)) | refine go1 ?_ | refine end_block_other rfl ?_ | refine end_scope (fun _ h => by cases h) ?_ | (refine walk_endD ?_ ?_; (· kernel_rfl)) | refine tri_yesA rfl ?_ | refine tri_noA rfl ?_ | refine tri_trueA rfl ?_ | refine tri_falseA rfl ?_))
    iterate 17 (try (first | (show Walk1 _ _ _ (_ :: _) _ _; first | (show Walk1 _ _ _ (⟨_, .move _, _, _, _, _⟩ :: _) _ _; refine walk1_t (op_move rfl rfl rfl rfl) ?_) | (show Walk1 _ _ _ (⟨_, .assign _, _, _, _, _⟩ :: _) _ _; refine walk1_t (op_assign rfl rfl rfl rfl) ?_) | (show Walk1 _ _ _ (⟨_, .binOp .neq _ _ _ _, _, _, _, _⟩ :: _) _ _; refine walk1_t (op_neN rfl rfl rfl (by first | exact evN_const rfl | exact rfl) (by first | exact evN_const rfl | exact rfl)) ?_) | (show Walk1 _ _ _ (⟨_, .load _ _, _, _, _, _⟩ :: _) _ _; refine walk1_t (op_loadsG rfl rfl rfl rfl rfl rfl rfl rfl (by with_reducible assumption)) ?_) | (show Walk1 _ _ _ (⟨_, .call ⟨.value (.func 15), _, _⟩, _, _, _, _⟩ :: _) _ _; (refine walk1_callM rfl rfl rfl rfl (by repeat (first | exact evs_nil | apply evs_cons rfl)) rfl ?_; refine ⟨_, _, callM_ow (q := 19) rfl (fun e w h1 => cC e w h1), ?_⟩))) | refine go1 ?_ | refine end_block_other rfl ?_ | refine end_scope (fun _ h => by cases h) ?_ | (refine walk_endD ?_ ?_; (· kernel_rfl)) | refine tri_yesA rfl ?_ | refine tri_noA rfl ?_ | refine tri_trueA rfl ?_ | refine tri_falseA rfl ?_))
    refine tri_ent (ent_blkO (n := 12) (q := 19) ((SA.c HD).app ((SA.l [SV.v 19]).app ((SA.l [.c (.int .u32 (bvi s.label)), .c (.int .u32 (bvi s.frm)), .c (.int .u32 (bvi s.til))]).app ((SA.c (vals .u8 Z32)).app (SA.c (vals .u8 Z32)))))) rfl rfl (fun e h => hGp _ h)) ?_
    clear cC hGp hG1 hG2 cl
    generalize Z32 = Z3 at *
    iterate 17 (try (first | (show Walk1 _ _ _ (_ :: _) _ _; first | (show Walk1 _ _ _ (⟨_, .move _, _, _, _, _⟩ :: _) _ _; refine walk1_t (op_move rfl rfl rfl rfl) ?_) | (show Walk1 _ _ _ (⟨_, .load _ _, _, _, _, _⟩ :: _) _ _; refine walk1_t (op_loads rfl rfl rfl rfl rfl rfl rfl rfl) ?_) | (show Walk1 _ _ _ (⟨_, .store _ _ _, _, _, _, _⟩ :: _) _ _; refine walk1_b (op_storesM rfl rfl rfl rfl rfl rfl rfl) ?_) | (show Walk1 _ _ _ (⟨_, .fieldAddr _ _ _, _, _, _, _⟩ :: _) _ _; refine walk1_t (op_fldT rfl rfl rfl rfl rfl rfl off_zero) ?_) | (show Walk1 _ _ _ (⟨_, .buildSlice _ _ _, _, _, _, _⟩ :: _) _ _; first | refine walk1_n (op_bsliceV rfl rfl rfl rfl rfl rfl rfl rfl rfl rfl rfl rfl) (by kernel_rfl) ?_ | refine walk1_n (op_bslice1 rfl rfl rfl rfl rfl rfl rfl rfl rfl rfl rfl (ce_one fun _ => rfl) (sm_l rfl) (by kernel_rfl)) (by kernel_rfl) ?_) | (show Walk1 _ _ _ (⟨_, .call ⟨.value (.func 13), _, _⟩, _, _, _, _⟩ :: _) _ _; (refine walk1_callO rfl rfl rfl rfl (by kernel_rfl) (by repeat (first | exact evs_nil | apply evs_cons rfl)) rfl ?_; refine ⟨[], _, _, _, _, (fun S2 e a w hS hq => cE w (hr.kept fun b hb => hS.frame.block b hb (by simp))), ?_⟩)) | (show Walk1 _ _ _ (⟨_, .call ⟨.value (.func 12), _, _⟩, _, _, _, _⟩ :: _) _ _; (refine walk1_callM rfl rfl rfl rfl (by repeat (first | exact evs_nil | apply evs_cons rfl)) rfl ?_; refine ⟨_, _, callM_s (by first | exact slcq_old (by first | assumption | exact slcx_of (by assumption)) | exact slcq_row rfl (by first | rfl | omega) (by assumption) | exact slcq_list rfl (by repeat (first | exact fsqs_nil | apply fsqs_cons (by first | exact fsq_own rfl | exact fsq_osub rfl | exact fsq_subU rfl (by omega) rfl | exact fsq_ones rfl rfl (by omega) | exact fsq_one rfl (by omega) | exact fsq_lit rfl (by repeat (first | exact litl_nil | apply litl_bv | refine litl_z rfl ?_)) rfl (by omega) | exact fsq_whole rfl (by first | (with_reducible assumption) | rfl | (simp <;> fail) | omega) (by omega) | exact fsq_old (by first | assumption | exact fsx_of (by assumption) (by omega) | exact FSX.cutB (by assumption) (by omega) | exact fsx_of (FS.cutB (by assumption) (by omega)) (by omega)) | exact fsq_nil))) rfl) (fun e w h1 => s1 _ w h1), ?_⟩)) | (show Walk1 _ _ _ (⟨_, .call ⟨.value (.func 12), _, _⟩, _, _, _, _⟩ :: _) _ _; (refine walk1_callM rfl rfl rfl rfl (by repeat (first | exact evs_nil | apply evs_cons rfl)) rfl ?_; refine ⟨_, _, callM_s (by first | exact slcq_old (by first | assumption | exact slcx_of (by assumption)) | exact slcq_row rfl (by first | rfl | omega) (by assumption) | exact slcq_list rfl (by repeat (first | exact fsqs_nil | apply fsqs_cons (by first | exact fsq_own rfl | exact fsq_osub rfl | exact fsq_subU rfl (by omega) rfl | exact fsq_ones rfl rfl (by omega) | exact fsq_one rfl (by omega) | exact fsq_lit rfl (by repeat (first | exact litl_nil | apply litl_bv | refine litl_z rfl ?_)) rfl (by omega) | exact fsq_whole rfl (by first | (with_reducible assumption) | rfl | (simp <;> fail) | omega) (by omega) | exact fsq_old (by first | assumption | exact fsx_of (by assumption) (by omega) | exact FSX.cutB (by assumption) (by omega) | exact fsx_of (FS.cutB (by assumption) (by omega)) (by omega)) | exact fsq_nil))) rfl) (fun e w h1 => s2 _ w h1), ?_⟩))) | refine go1 ?_ | refine end_block_other rfl ?_ | refine end_scope (fun _ h => by cases h) ?_ | (refine walk_endD ?_ ?_; (· kernel_rfl)) | refine tri_yesA rfl ?_ | refine tri_noA rfl ?_ | refine tri_trueA rfl ?_ | refine tri_falseA rfl ?_))
    refine tri_ent (ent_blkO (n := 12) (q := 19) (.fn 19 H) rfl rfl (fun e h => Eq.symm (show (SA.fn 19 H).den e = ((SA.c HD).app ((SA.l [SV.v 19]).app ((SA.l [.c (.int .u32 (bvi s.label)), .c (.int .u32 (bvi s.frm)), .c (.int .u32 (bvi s.til))]).app ((SA.c (vals .u8 S1)).app (SA.c (vals .u8 S2)))))).den e from hHp _ h))) ?_
    repeat (first | (show Walk1 _ _ _ (_ :: _) _ _; (show Walk1 _ _ _ (⟨_, .load _ _, _, _, _, _⟩ :: _) _ _; refine walk1_t (op_loadsG rfl rfl rfl rfl rfl rfl rfl rfl (by with_reducible assumption)) ?_)) | refine go1 ?_ | refine end_block_other rfl ?_ | refine end_scope (fun _ h => by cases h) ?_ | (refine walk_endD ?_ ?_; (· kernel_rfl)) | refine tri_yesA rfl ?_ | refine tri_noA rfl ?_ | refine tri_trueA rfl ?_ | refine tri_falseA rfl ?_)
    refine walk1_b (op_storeG rfl rfl rfl rfl rfl rfl rfl hH1 hH2 (sm_c (by kernel_rfl))) ?_
    repeat (first | (show Walk1 _ _ _ (_ :: _) _ _; (show Walk1 _ _ _ (⟨_, .assign _, _, _, _, _⟩ :: _) _ _; refine walk1_t (op_assignN rfl rfl rfl rfl) ?_)) | refine go1 ?_ | refine end_block_other rfl ?_ | refine end_scope (fun _ h => by cases h) ?_ | (refine walk_endD ?_ ?_; (· kernel_rfl)) | refine tri_yesA rfl ?_ | refine tri_noA rfl ?_ | refine tri_trueA rfl ?_ | refine tri_falseA rfl ?_)
    refine end_ret _ (res_cellS rfl rfl rfl rfl rfl rfl rfl (fun e => hH1 _)) ?_
    exact fin_G (n := 0) (q := 19) rfl (fun e h => rfl)
  · obtain ⟨k1, k2⟩ := hgI1 h2
    rw [k1, k2]
    clear hgI0 hgI1 k1 k2
    refine calls_tri Try.func6 rfl Try.ntmps6 rfl ?_
    iterate 12 (try (first | (show Walk1 _ _ _ (_ :: _) _ _; first | (show Walk1 _ _ _ (⟨_, .assign _, _, _, _, _⟩ :: _) _ _; refine walk1_t (op_assignN rfl rfl rfl rfl) ?_) | (show Walk1 _ _ _ (⟨_, .alloc _, _, _, _, _⟩ :: _) _ _; refine walk1_n (op_alloc rfl rfl rfl rfl rfl) (by kernel_rfl) ?_) | (show Walk1 _ _ _ (⟨_, .box _ _, _, _, _, _⟩ :: _) _ _; refine walk1_n (op_box rfl rfl rfl rfl rfl) (by kernel_rfl) ?_)) | (show WalkTo _ _ _ _ (_ :: _) _ _ _; (show WalkTo _ _ _ _ (⟨_, .move _, _, _, _, _⟩ :: _) _ _ _; refine walk_t (op_move rfl rfl rfl rfl) ?_)) | refine go1 ?_ | refine end_block_other rfl ?_ | refine end_scope (fun _ h => by cases h) ?_ | (refine walk_endD ?_ ?_; (· kernel_rfl)) | refine tri_yesA rfl ?_ | refine tri_noA rfl ?_ | refine tri_trueA rfl ?_ | refine tri_falseA rfl ?_))
    refine walk_t (op_loadsC rfl rfl rfl rfl rfl rfl rfl rfl (sm_c hVs) ag_c) ?_
    refine walk_t (op_loadsC rfl rfl rfl rfl rfl rfl rfl rfl (sm_c hns) ag_c) ?_
    repeat (first | (show WalkTo _ _ _ _ (_ :: _) _ _ _; first | (show WalkTo _ _ _ _ (⟨_, .load _ _, _, _, _, _⟩ :: _) _ _ _; refine walk_t (op_load rfl rfl rfl rfl rfl rfl rfl) ?_) | (show WalkTo _ _ _ _ (⟨_, .fieldAddr _ _ _, _, _, _, _⟩ :: _) _ _ _; refine walk_t (op_fldT rfl rfl rfl rfl rfl rfl off_zero) ?_) | (show WalkTo _ _ _ _ (⟨_, .call ⟨.value (.func 14), _, _⟩, _, _, _, _⟩ :: _) _ _ _; (refine walk_callO rfl rfl rfl rfl (by kernel_rfl) (by repeat (first | exact evs_nil | apply evs_cons rfl)) rfl ?_; refine ⟨_, _, _, _, _, callO_1 ((by first | exact rdn_one rfl | exact rdn_ones rfl rfl | exact rdn_own rfl | exact rdn_osub rfl | exact rdn_whole rfl (by first | omega | (simp; omega) | (simp <;> fail) | omega) | exact rdn_sub rfl (by first | omega | decide) | exact rdn_blk rfl (by first | omega | (simp; omega) | (simp <;> fail) | omega) | exact rdn_lit rfl (by repeat (first | exact litl_nil | apply litl_bv | refine litl_z rfl ?_)) rfl | exact rdn_oldX (by assumption) | exact rdn_oldR (by assumption) | exact rdn_oldX (FSX.cutB (by assumption) (by omega)) | exact rdn_old (by assumption) (by omega) rfl | exact rdn_old (FS.rd (by first | assumption | exact FSX.fs (by assumption) | (refine FS.cutB (by assumption) ?_; omega) | (refine FS.cut (by assumption) ?_; omega))) (by omega) rfl | exact rdn_nil)) (fun e w h1 => cl w h1), ?_⟩))) | refine go1 ?_ | refine end_block_other rfl ?_ | refine end_scope (fun _ h => by cases h) ?_ | (refine walk_endD ?_ ?_; (· kernel_rfl)) | refine tri_yesA rfl ?_ | refine tri_noA rfl ?_ | refine tri_trueA rfl ?_ | refine tri_falseA rfl ?_)
    refine walk_t (op_buildF (parts := [(0, .tmp 14), (1, .tmp 15), (2, .tmp 16), (3, .tmp 19), (4, .tmp 21), (5, .tmp 23), (6, .tmp 25)]) (svs := [.c (.int .i64 l), .c (.agg VC), .c (.agg NC), .v 19, .c (.int .u32 (bvi s.label)), .c (.int .u32 (bvi s.frm)), .c (.int .u32 (bvi s.til))]) (vs := fun u => [.int .i64 l, .agg VC, .agg NC, u, .int .u32 (bvi s.label), .int .u32 (bvi s.frm), .int .u32 (bvi s.til)]) (q := 19) G rfl rfl rfl rfl rfl (fun _ => rfl) rfl rfl (by kernel_rfl) (fun _ _ => by subst hVC hNC; rw [hG]; kernel_rfl)) ?_
    clear hG
    iterate 2 (try (first | (show WalkTo _ _ _ _ (_ :: _) _ _ _; first | (show WalkTo _ _ _ _ (⟨_, .store _ _ _, _, _, _, _⟩ :: _) _ _ _; refine walk_b (op_storeG rfl rfl rfl rfl rfl rfl rfl (by with_reducible assumption) (by with_reducible assumption)) ?_) | (show WalkTo _ _ _ _ (⟨_, .alloc _, _, _, _, _⟩ :: _) _ _ _; refine walk_n (op_alloc rfl rfl rfl rfl rfl) (by kernel_rfl) ?_)) | refine go1 ?_ | refine end_block_other rfl ?_ | refine end_scope (fun _ h => by cases h) ?_ | (refine walk_endD ?_ ?_; (· kernel_rfl)) | refine tri_yesA rfl ?_ | refine tri_noA rfl ?_ | refine tri_trueA rfl ?_ | refine tri_falseA rfl ?_))
    clear hGp
    repeat (first | (show Walk1 _ _ _ (_ :: _) _ _; first | (show Walk1 _ _ _ (⟨_, .move _, _, _, _, _⟩ :: _) _ _; refine walk1_t (op_move rfl rfl rfl rfl) ?_) | (show Walk1 _ _ _ (⟨_, .assign _, _, _, _, _⟩ :: _) _ _; refine walk1_t (op_assign rfl rfl rfl rfl) ?_) | (show Walk1 _ _ _ (⟨_, .binOp .neq _ _ _ _, _, _, _, _⟩ :: _) _ _; refine walk1_t (op_neI rfl rfl rfl rfl rfl) ?_) | (show Walk1 _ _ _ (⟨_, .load _ _, _, _, _, _⟩ :: _) _ _; refine walk1_t (op_loadsG rfl rfl rfl rfl rfl rfl rfl rfl (by with_reducible assumption)) ?_) | (show Walk1 _ _ _ (⟨_, .call ⟨.value (.func 15), _, _⟩, _, _, _, _⟩ :: _) _ _; (refine walk1_callM rfl rfl rfl rfl (by repeat (first | exact evs_nil | apply evs_cons rfl)) rfl ?_; refine ⟨_, _, callM_ow (q := 19) rfl (fun e w h1 => cC e w h1), ?_⟩))) | refine go1 ?_ | refine end_block_other rfl ?_ | refine end_scope (fun _ h => by cases h) ?_ | (refine walk_endD ?_ ?_; (· kernel_rfl)) | refine tri_yesA rfl ?_ | refine tri_noA rfl ?_ | refine tri_trueA rfl ?_ | refine tri_falseA rfl ?_)
    refine walk1_t (op_buildC (parts := []) (vs := []) (recA zRec6 (.slice none 0 0)) rfl rfl rfl rfl rfl rfl (by kernel_rfl) (by kernel_rfl)) ?_
    iterate 1 (try (first | (show Walk1 _ _ _ (_ :: _) _ _; (show Walk1 _ _ _ (⟨_, .move _, _, _, _, _⟩ :: _) _ _; refine walk1_t (op_move rfl rfl rfl rfl) ?_)) | refine go1 ?_ | refine end_block_other rfl ?_ | refine end_scope (fun _ h => by cases h) ?_ | (refine walk_endD ?_ ?_; (· kernel_rfl)) | refine tri_yesA rfl ?_ | refine tri_noA rfl ?_ | refine tri_trueA rfl ?_ | refine tri_falseA rfl ?_))
    refine walk1_b (op_storesC rfl rfl rfl rfl rfl rfl rfl (by kernel_rfl) (by kernel_rfl) (sm_c (by kernel_rfl))) ?_
    repeat (first | (show Walk1 _ _ _ (_ :: _) _ _; (show Walk1 _ _ _ (⟨_, .assign _, _, _, _, _⟩ :: _) _ _; refine walk1_t (op_assign rfl rfl rfl rfl) ?_)) | refine go1 ?_ | refine end_block_other rfl ?_ | refine end_scope (fun _ h => by cases h) ?_ | (refine walk_endD ?_ ?_; (· kernel_rfl)) | refine tri_yesA rfl ?_ | refine tri_noA rfl ?_ | refine tri_trueA rfl ?_ | refine tri_falseA rfl ?_)
    refine end_ret _ (res_cellS rfl rfl rfl rfl rfl rfl rfl (sm_c (by kernel_rfl))) ?_
    exact fin_GX0 (n2 := 0) ⟨rfl, rfl, rfl, Nat.le_refl _, fun _ _ _ => rfl⟩ (fun x hx => by cases hx) (fun e => rfl)
end Go.Proofs.Ytihbiejgebmeaaa
