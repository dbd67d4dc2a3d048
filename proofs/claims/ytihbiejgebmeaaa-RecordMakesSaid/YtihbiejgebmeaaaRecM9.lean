/- The law RecordMakes: walked. No condition. -/
import Derived.Test.YtihbiejgebmeaaaRecM8
import Derived.Test.YtihbiejgebmeaaaRecYS
import Derived.Test.YtihbiejgebmeaaaRecZ5
namespace Go.Proofs.Ytihbiejgebmeaaa
open Go.RowKit
set_option maxRecDepth 100000
set_option maxHeartbeats 4000000
theorem ScnFS.kept {w0 w : World} {s : ScnR} {v : ScnV} (h : ScnFS w0 s v) (hb : ∀ b, b < w0.heap.size → w.heap[b]? = w0.heap[b]?) : ScnFS w s v :=
  ⟨h.t.later (by omega) hb, h.m.later (by omega) hb, h.x.later (by omega) hb, fun t ht => (h.px t ht).later (by omega) hb, h.l.later (by omega) hb, h.i.later (by omega) hb, h.b.later (by omega) hb⟩
theorem cutN_one {w : World} {sz n k : Nat} {v : Value} {xs : List Value} (h : FS w sz v n xs) : (cutN sz v n k).oneCell' = true := by
  obtain ⟨a, c, rfl, _⟩ := h.2
  rfl
theorem few_one {w : World} {s : ScnR} {v : ScnV} (h : ScnFS w s v) (u : Value) : (scnA (fewS s) (fewV s v (slV u))).all (·.oneCell') = true := by
  have h1 := cutN_one (k := 20) h.t
  have h2 := cutN_one (k := 8) h.m
  have h3 := cutN_one (k := 5) h.l
  have h4 := cutN_one (k := 20) h.i
  have h5 := cutN_one (k := 20) h.b
  have h6 := (slV_one u).1
  unfold scnA fewV
  simp only [List.all_toArray, List.all_cons, List.all_nil, h1, h2, h3, h4, h5, h6]
  rfl
theorem slV_rdv {w : World} {sz n : Nat} {v : Value} {xs : List Value} (h : RdV w sz v n xs) : slV v = v := by
  obtain ⟨_, a, c, rfl, _⟩ := h
  rfl
def madeA (l : Int) (n : StepS) (vf : Value) : Array Value := #[.int .i64 l] ++ (n.c ++ #[vf])
theorem same_made (l : Int) (V : ViewS) (n : StepS) (s : ScnR) (hli : s.ids.length ≤ 20) (file : List (BitVec 8)) (u u' : Value) (w : World) (h : RdV w 1 u (madeI l V n s).length (valsL .u64 (madeI l V n s))) (h' : RdV w 1 u' s.ids.length (valsL .u64 s.ids)) :
    Calls Try.prog 8 #[.agg (madeG l V n s file u), .agg (madeR l V n s file u')] w fun r w' => r = .returned (.bool true) ∧ Below w.heap.size w w' := by
  by_cases h0 : recE (rMade l V n s Z32 Z32) = 0
  · have hok1 : (rMade l V n s (shaL (wZ s.z)) (shaL file)).ok := ⟨shaL_length _, shaL_length _⟩
    have e1 : madeI l V n s = s.ids := if_pos h0
    have e2 : madeG l V n s file u = recA (rMade l V n s (shaL (wZ s.z)) (shaL file)) (slV u) := if_pos h0
    have e3 : madeR l V n s file u' = recA (rMade l V n s (shaL (wZ s.z)) (shaL file)) u' := if_pos h0
    rw [e1] at h
    rw [e2, e3, slV_rdv h]
    have := refSame_any (rMade l V n s (shaL (wZ s.z)) (shaL file)) (rMade l V n s (shaL (wZ s.z)) (shaL file)) hok1 hok1 s.ids s.ids (by omega) u u' (recA (rMade l V n s (shaL (wZ s.z)) (shaL file)) u) (recA (rMade l V n s (shaL (wZ s.z)) (shaL file)) u') (recF _ hok1 u) (recF _ hok1 u') w h h'
    rw [sameR_refl] at this
    exact this
  · have e2 : madeG l V n s file u = recA zRec6 (.slice none 0 0) := if_neg h0
    have e3 : madeR l V n s file u' = recA zRec6 (.slice none 0 0) := if_neg h0
    rw [e2, e3]
    have h0 : RdV w 1 (.slice none 0 0) ([] : List (BitVec 64)).length (valsL .u64 ([] : List (BitVec 64))) := ⟨rfl, none, 0, rfl, Or.inl rfl⟩
    have := refSame_any zRec6 zRec6 zRec6_ok zRec6_ok [] [] (by simp) (.slice none 0 0) (.slice none 0 0) (recA zRec6 (.slice none 0 0)) (recA zRec6 (.slice none 0 0)) (recF _ zRec6_ok _) (recF _ zRec6_ok _) w h0 h0
    rw [sameR_refl] at this
    exact this
attribute [local irreducible] Calls Walk1 WalkTo Tri EndA
theorem recordMakes_walk (l : Int) (V : ViewS) (n : StepS) (s : ScnR) (v : ScnV) (file : List (BitVec 8)) (vf : Value) (w : World) (hn : s.num) (hr : ScnFS w s v) (hf : FS w 1 vf file.length (valsL .u8 file)) :
    Calls Try.prog 3 #[.agg (madeA l n vf), .agg V.c, .agg (scnA s v)] w fun e w' => e = .returned (.bool true) ∧ Below w.heap.size w w' := by
  obtain ⟨dF, cF, rfl, gF⟩ := hf.2
  have rF := hf.rd
  have hmx : 0 + (min file.length 200 - 0) ≤ file.length := by omega
  have hf2 := hf.cutB hmx
  have hlx : ((file.drop 0).take (min file.length 200 - 0)).length = min file.length 200 - 0 := by rw [List.drop_zero, List.length_take]; omega
  have hf3 : FS w 1 (cutV (.slice dF file.length cF) 0 (min file.length 200 - 0)) ((file.drop 0).take (min file.length 200 - 0)).length (valsL .u8 ((file.drop 0).take (min file.length 200 - 0))) := by rw [hlx]; exact hf2
  have hx5 : ((file.drop 0).take (min file.length 200 - 0)).length ≤ 1000 := by omega
  clear hlx hmx hf2
  generalize (file.drop 0).take (min file.length 200 - 0) = f2 at *
  have hok := few_ok s hn
  have hli := hok.lids
  obtain ⟨G, hG⟩ : ∃ G : Value → Array Value, G = fun u => scnA (fewS s) (fewV s v (slV u)) := ⟨_, rfl⟩
  have hG1 : ∀ u, (G u).size = 9 := fun u => by rw [hG]; rfl
  have hG2 : ∀ u, (G u).all (·.oneCell') = true := fun u => by rw [hG]; exact few_one hr u
  have cFw : ∀ (w2 : World), (∀ b, b < w.heap.size → w2.heap[b]? = w.heap[b]?) → Calls Try.prog 5 #[.agg (scnA s v)] w2 (RetF w2 61 2 (fewS s).texs.length ((fewS s).texs.flatMap TexR.c) G) := fun w2 hb => by
    rw [hG]
    exact few28_any s v w2 (hr.kept hb)
  have hrd : ∀ (u : Value) (w2 : World), (∀ b, b < w.heap.size → w2.heap[b]? = w.heap[b]?) → RdV w2 2 u (fewS s).texs.length ((fewS s).texs.flatMap TexR.c) → ScnRd w2 (fewS s) (fewV s v (slV u)) := fun u w2 hb hu => by
    rw [slV_rdv hu]
    exact few_rd s v u w w2 hr hb hu
  obtain ⟨H, hH⟩ : ∃ H, H = madeG l V n (fewS s) f2 := ⟨_, rfl⟩
  obtain ⟨R, hR⟩ : ∃ R, R = madeR l V n (fewS s) f2 (cutN 1 v.i s.ids.length 20) := ⟨_, rfl⟩
  obtain ⟨E, hE⟩ : ∃ E, E = recE (rMade l V n (fewS s) Z32 Z32) := ⟨_, rfl⟩
  obtain ⟨ids, hids⟩ : ∃ ids, ids = madeI l V n (fewS s) := ⟨_, rfl⟩
  have cM : ∀ (u : Value) (w2 : World), (∀ b, b < w.heap.size → w2.heap[b]? = w.heap[b]?) → RdV w2 2 u (fewS s).texs.length ((fewS s).texs.flatMap TexR.c) → Calls Try.prog 6 #[.int .i64 l, .agg V.c, .agg (G u), .agg n.c, cutV (.slice dF file.length cF) 0 (min file.length 200 - 0)] w2 (RetG w2 27 1 ids.length (valsL .u64 ids) H (.int .i64 E)) := fun u w2 hb hu => by
    rw [hG, hH, hE, hids]
    exact make31_any l V n (fewS s) hok (fewV s v (slV u)) f2 hx5 _ w2 (hrd u w2 hb hu) (hf3.later (by omega) hb)
  have cR : ∀ (u : Value) (w2 : World), (∀ b, b < w.heap.size → w2.heap[b]? = w.heap[b]?) → RdV w2 2 u (fewS s).texs.length ((fewS s).texs.flatMap TexR.c) → Calls Try.prog 7 #[.int .i64 l, .agg V.c, .agg (G u), .agg n.c, cutV (.slice dF file.length cF) 0 (min file.length 200 - 0)] w2 fun e w' => e = .returned (.tuple #[.agg R, .int .i64 E]) ∧ Below w2.heap.size w2 w' := fun u w2 hb hu => by
    rw [hG, hR, hE]
    exact refMake31_any l V n (fewS s) hok (fewV s v (slV u)) f2 hx5 _ w2 (hrd u w2 hb hu) (hf3.later (by omega) hb)
  have hids' : RdV w 1 (cutN 1 v.i s.ids.length 20) (fewS s).ids.length (valsL .u64 (fewS s).ids) := by
    have h1 := hr.i
    rw [vals_flat] at h1
    have := (cut_rd (k := 20) h1 fun _ _ => rfl).rd
    rw [← vals_flat] at this
    exact this
  have cS : ∀ (u : Value) (w2 : World), RdV w2 1 u ids.length (valsL .u64 ids) → (∀ b, b < w.heap.size → w2.heap[b]? = w.heap[b]?) → Calls Try.prog 8 #[.agg (H u), .agg R] w2 fun r w' => r = .returned (.bool true) ∧ Below w2.heap.size w2 w' := fun u w2 hu hb => by
    rw [hids] at hu
    rw [hH, hR]
    exact same_made l V n (fewS s) hli f2 u _ w2 hu (hids'.later (by omega) hb)
  have hH1 : ∀ u, (H u).size = 93 := fun u => by
    rw [hH]
    unfold madeG
    split
    · exact recA_sz6 _ ⟨shaL_length _, shaL_length _⟩ _
    · exact recA_sz6 _ zRec6_ok _
  have hH2 : ∀ u, (H u).all (·.oneCell') = true := fun u => by
    rw [hH]
    unfold madeG
    split
    · exact recA_all6 _ _ (slV_one u).1
    · exact recA_all6 _ _ rfl
  have hR1 : R.size = 93 := by
    rw [hR]
    unfold madeR
    split
    · exact recA_sz6 _ ⟨shaL_length _, shaL_length _⟩ _
    · exact recA_sz6 _ zRec6_ok _
  have hR2 : R.all (·.oneCell') = true := by
    rw [hR]
    unfold madeR
    split
    · exact recA_all6 _ _ (cutN_one hr.i)
    · exact recA_all6 _ _ rfl
  clear hH hR hE hids hids' hrd hG
  generalize (fewS s).texs.flatMap TexR.c = TX at *
  generalize (fewS s).texs.length = tn at *
  have cw := fun w => works31_any w
  have hVs : V.c.size = 21 := rfl
  have hVo : V.c.all (·.oneCell') = true := by kernel_rfl
  have hns : n.c.size = 3 := rfl
  have hno : n.c.all (·.oneCell') = true := by kernel_rfl
  unfold madeA
  generalize V.c = VC at *
  generalize n.c = NC at *
  have hSs : (scnA s v).size = 9 := rfl
  generalize scnA s v = SC at *
  refine calls_tri Try.func3 rfl Try.ntmps3 rfl ?_
  iterate 8 (try (first | (show Walk1 _ _ _ (_ :: _) _ _; first | (show Walk1 _ _ _ (⟨_, .assign _, _, _, _, _⟩ :: _) _ _; refine walk1_t (op_assign rfl rfl rfl rfl) ?_) | (show Walk1 _ _ _ (⟨_, .box _ _, _, _, _, _⟩ :: _) _ _; refine walk1_n (op_box rfl rfl rfl rfl rfl) (by kernel_rfl) ?_)) | refine go1 ?_ | refine end_block_other rfl ?_ | refine end_scope (fun _ h => by cases h) ?_ | (refine walk_endD ?_ ?_; (· kernel_rfl)) | refine tri_yesA rfl ?_ | refine tri_noA rfl ?_ | refine tri_trueA rfl ?_ | refine tri_falseA rfl ?_))
  refine tri_ent (ent_blkA 3 ((SA.l [SV.c (.int .i64 l)]).app ((SA.c NC).app (SA.l [SV.c (.slice dF file.length cF)]))) rfl (fun _ => rfl)) ?_
  iterate 2 (try (first | refine go1 ?_ | refine end_block_other rfl ?_ | refine end_scope (fun _ h => by cases h) ?_ | (refine walk_endD ?_ ?_; (· kernel_rfl)) | refine tri_yesA rfl ?_ | refine tri_noA rfl ?_ | refine tri_trueA rfl ?_ | refine tri_falseA rfl ?_))
  refine walk1_t (op_loadsC rfl rfl rfl rfl rfl rfl rfl rfl (sm_c hSs) ag_c) ?_
  repeat (first | (show Walk1 _ _ _ (_ :: _) _ _; first | (show Walk1 _ _ _ (⟨_, .move _, _, _, _, _⟩ :: _) _ _; refine walk1_t (op_move rfl rfl rfl rfl) ?_) | (show Walk1 _ _ _ (⟨_, .assign _, _, _, _, _⟩ :: _) _ _; refine walk1_t (op_assign rfl rfl rfl rfl) ?_) | (show Walk1 _ _ _ (⟨_, .load _ _, _, _, _, _⟩ :: _) _ _; first | refine walk1_t (op_load rfl rfl rfl rfl rfl rfl rfl) ?_ | refine walk1_t (op_loads rfl rfl rfl rfl rfl rfl rfl rfl) ?_ | refine walk1_t (op_loadsM rfl rfl rfl rfl rfl rfl rfl rfl) ?_ | refine walk1_t (op_loadsG rfl rfl rfl rfl rfl rfl rfl rfl (by with_reducible assumption)) ?_) | (show Walk1 _ _ _ (⟨_, .store _ _ _, _, _, _, _⟩ :: _) _ _; refine walk1_b (op_storeG rfl rfl rfl rfl rfl rfl rfl (by with_reducible assumption) (by with_reducible assumption)) ?_) | (show Walk1 _ _ _ (⟨_, .alloc _, _, _, _, _⟩ :: _) _ _; refine walk1_n (op_alloc rfl rfl rfl rfl rfl) (by kernel_rfl) ?_) | (show Walk1 _ _ _ (⟨_, .fieldAddr _ _ _, _, _, _, _⟩ :: _) _ _; refine walk1_t (op_fldT rfl rfl rfl rfl rfl rfl off_zero) ?_) | (show Walk1 _ _ _ (⟨_, .extract _ _, _, _, _, _⟩ :: _) _ _; first | refine walk1_t (op_ext0 rfl rfl rfl rfl) ?_ | refine walk1_t (op_ext1 rfl rfl rfl rfl) ?_ | refine walk1_t (op_extract rfl rfl rfl rfl rfl) ?_) | (show Walk1 _ _ _ (⟨_, .call ⟨.builtin .len, _, _⟩, _, _, _, _⟩ :: _) _ _; refine walk1_t (op_lenC rfl rfl rfl) ?_) | (show Walk1 _ _ _ (⟨_, .call ⟨.builtin .min, _, _⟩, _, _, _, _⟩ :: _) _ _; refine walk1_t (op_minN rfl (by first | exact evN_const rfl | exact rfl) (by first | exact evN_const rfl | exact rfl)) ?_) | (show Walk1 _ _ _ (⟨_, .slice _ _ _ _ _, _, _, _, _⟩ :: _) _ _; refine walk1_t (op_cutF rfl rfl rfl rfl rfl rfl) ?_) | (show Walk1 _ _ _ (⟨_, .call ⟨.value (.func 5), _, _⟩, _, _, _, _⟩ :: _) _ _; (refine walk1_callF rfl rfl rfl rfl (by kernel_rfl) (by repeat (first | exact evs_nil | apply evs_cons rfl)) rfl ?_; refine ⟨[], _, _, _, _, _, (fun S2 e a w hS hq => cFw w (fun b hb => hS.frame.block b hb (by simp))), ?_⟩)) | (show Walk1 _ _ _ (⟨_, .call ⟨.value (.func 6), _, _⟩, _, _, _, _⟩ :: _) _ _; (refine walk1_callG rfl rfl rfl rfl (by kernel_rfl) (by repeat (first | exact evs_nil | apply evs_cons rfl)) rfl ?_; refine ⟨[13], _, _, _, _, _, _, (fun S2 e a w hS hq => cM _ w (fun b hb => hS.frame.block b hb (by simp)) (rdn_own (n := 13) rfl S2 e a w hq hS)), ?_⟩)) | (show Walk1 _ _ _ (⟨_, .call ⟨.value (.func 7), _, _⟩, _, _, _, _⟩ :: _) _ _; (refine walk1_callM rfl rfl rfl rfl (by repeat (first | exact evs_nil | apply evs_cons rfl)) rfl ?_; refine ⟨[13], _, (fun S2 e a w hS hq => cR _ w (fun b hb => hS.frame.block b hb (by simp)) (rdn_own (n := 13) rfl S2 e a w hq hS)), ?_⟩))) | refine go1 ?_ | refine end_block_other rfl ?_ | refine end_scope (fun _ h => by cases h) ?_ | (refine walk_endD ?_ ?_; (· kernel_rfl)) | refine tri_yesA rfl ?_ | refine tri_noA rfl ?_ | refine tri_trueA rfl ?_ | refine tri_falseA rfl ?_)
  refine walk1_b (op_storesC rfl rfl rfl rfl rfl rfl rfl hR1 hR2 (sm_c (by kernel_rfl))) ?_
  repeat (first | (show Walk1 _ _ _ (_ :: _) _ _; first | (show Walk1 _ _ _ (⟨_, _, _, _, _, some _⟩ :: _) _ _; refine walk1_yes rfl rfl (by first | exact decide_eq_true (by omega) | exact decide_eq_false (by omega) | rfl | (show _ = true; with_reducible assumption) | (show _ = false; with_reducible assumption) | (simp <;> fail) | omega) ?_) | (show Walk1 _ _ _ (⟨_, .move _, _, _, _, _⟩ :: _) _ _; refine walk1_t (op_move rfl rfl rfl rfl) ?_) | (show Walk1 _ _ _ (⟨_, .assign _, _, _, _, _⟩ :: _) _ _; refine walk1_t (op_assign rfl rfl rfl rfl) ?_) | (show Walk1 _ _ _ (⟨_, .binOp .eql _ _ _ _, _, _, _, _⟩ :: _) _ _; refine walk1_t (op_eqI rfl rfl rfl rfl rfl) ?_) | (show Walk1 _ _ _ (⟨_, .pick _ _ _, _, _, _, _⟩ :: _) _ _; refine walk1_t (op_pickY rfl rfl rfl rfl (by first | exact decide_eq_true (by omega) | exact decide_eq_false (by omega) | rfl | (show _ = true; with_reducible assumption) | (show _ = false; with_reducible assumption) | (simp <;> fail) | omega) rfl) ?_) | (show Walk1 _ _ _ (⟨_, .load _ _, _, _, _, _⟩ :: _) _ _; first | refine walk1_t (op_loads rfl rfl rfl rfl rfl rfl rfl rfl) ?_ | refine walk1_t (op_loadsG rfl rfl rfl rfl rfl rfl rfl rfl (by with_reducible assumption)) ?_) | (show Walk1 _ _ _ (⟨_, .call ⟨.value (.func 8), _, _⟩, _, _, _, _⟩ :: _) _ _; (refine walk1_callM rfl rfl rfl rfl (by repeat (first | exact evs_nil | apply evs_cons rfl)) rfl ?_; refine ⟨[29], _, (fun S2 e a w hS hq => cS _ w (rdn_own (n := 29) rfl S2 e a w hq hS) (fun b hb => hS.frame.block b hb (by simp))), ?_⟩)) | (show Walk1 _ _ _ (⟨_, .call ⟨.value (.func 9), _, _⟩, _, _, _, _⟩ :: _) _ _; ((first | refine walk1_call rfl rfl rfl rfl (by repeat (first | exact evs_nil | apply evs_cons rfl)) rfl ?_ | refine walk1_call0 rfl rfl rfl (by repeat (first | exact evs_nil | apply evs_cons rfl)) rfl ?_); refine ⟨_, fun e w => cw w, ?_⟩))) | refine go1 ?_ | refine end_block_other rfl ?_ | refine end_scope (fun _ h => by cases h) ?_ | (refine walk_endD ?_ ?_; (· kernel_rfl)) | refine tri_yesA rfl ?_ | refine tri_noA rfl ?_ | refine tri_trueA rfl ?_ | refine tri_falseA rfl ?_)
  refine end_ret _ (res_tmp rfl rfl) ?_
  exact fin_below fun _ => congrArg Value.bool (by simp)
end Go.Proofs.Ytihbiejgebmeaaa
