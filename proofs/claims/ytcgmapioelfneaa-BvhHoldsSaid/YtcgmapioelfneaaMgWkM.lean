/- A walk tells what one triangle after the other tells: plain. No condition. Walks of any triangles: made new: walked. No condition. Chapter 21's example: walked. No condition. The law BvhHolds: walked. No condition. -/
import Derived.Test.YtcgmapioelfneaaMgWkI
import Derived.Test.YtcgmapioelfneaaMgBvs3
import Derived.Test.YtcgmapioelfneaaMgSwp9
namespace Go.Proofs.Ytcgmapioelfneaa
open Go.RowKit
set_option maxRecDepth 100000
set_option maxHeartbeats 1000000
/-- A walk over triangles, and what it tells. -/
structure WalkOf (l : List TriS) (N : List NodeS) (K : List Nat) (T : Option Tr) : Prop where
  ts : TreeS l N K T
  cost : costT T ≤ N.length + l.length
  steps : 0 < l.length → ∀ o d mask skip n, mayP o d = true → n + 1 ≤ (nearW T l K o d mask skip n).n
  stepsA : 0 < l.length → ∀ o d mask skip near n, mayP o d = true → n + 1 ≤ (anyW T l K o d mask skip near n).1
  less : ∀ o d mask skip n, n ≤ (nearW T l K o d mask skip n).n ∧ (nearW T l K o d mask skip n).n ≤ n + costT T
  lessA : ∀ o d mask skip near n, n ≤ (anyW T l K o d mask skip near n).1 ∧ (anyW T l K o d mask skip near n).1 ≤ n + costT T
  near : ∀ o d mask skip n, (nearW T l K o d mask skip n).i = (nearS l o d mask skip l.length).1 ∧ (nearW T l K o d mask skip n).m = (nearS l o d mask skip l.length).2
  any : ∀ o d mask skip near n, (anyW T l K o d mask skip near n).2 = anyS l o d mask skip near l.length
end Go.Proofs.Ytcgmapioelfneaa
namespace Go.Proofs.Ytcgmapioelfneaa
open Go.RowKit
set_option maxRecDepth 100000
set_option maxHeartbeats 1000000
attribute [local irreducible] Calls Walk1 WalkTo Tri EndA
theorem build_all (l : List TriS) (hok : ∀ t ∈ l, t.ok) (h4 : l.length ≤ 4096) (hfar : ∀ t ∈ l, farT t = false) (vl : Value) (w : World) (hvl : RdV w 19 vl l.length (trisC l)) :
    Calls Try.prog 7 #[vl] w (RetB w 43 10 (treeL l).1.length (nodesC (treeL l).1) 3 1 (treeL l).2.length (ordC (treeL l).2) (fun v1 v2 => #[v1, v2]) (.int .i64 0)) := by
  by_cases h0 : 0 < l.length
  · exact build_any l hok h0 h4 hfar vl w hvl
  · obtain rfl := List.eq_nil_of_length_eq_zero (show l.length = 0 by omega)
    refine Calls.mono (buildNil_any vl w hvl) ?_
    rintro r w' ⟨rfl, hb⟩
    exact ⟨.slice none 0 0, .slice none 0 0, rfl, ⟨by rfl, .inl ⟨rfl, rfl⟩⟩, ⟨by rfl, .inl ⟨rfl, rfl⟩⟩, fun x hx => (by cases hx), hb⟩
end Go.Proofs.Ytcgmapioelfneaa
namespace Go.Proofs.Ytcgmapioelfneaa
open Go.RowKit
set_option maxRecDepth 100000
set_option maxHeartbeats 2000000
theorem apart_ok : ∀ t ∈ apartL, t.ok := fun t ht => by
  obtain ⟨i, _, rfl⟩ := List.mem_map.1 ht
  exact ⟨rfl, fun u hu => by obtain ⟨_, rfl⟩ := List.mem_replicate.1 hu; rfl⟩
theorem apart_far : ∀ t ∈ apartL, farT t = false := by decide +kernel
theorem apart_5 : 3 ≤ (treeL apartL).1.length := Nat.le_of_ble_eq_true (by kernel_rfl)
theorem apart_4 : (treeL (apartL.take 4)).1.length = 1 := by kernel_rfl
theorem apart_l : (leavesL (treeL (apartL.take 4)).1 (treeL (apartL.take 4)).1.length).length = 1 := by kernel_rfl
theorem apart_len : apartL.length = 5 := by kernel_rfl
theorem apart_tk : (trisC apartL).take (4 * 19) = trisC (apartL.take 4) := by kernel_rfl
attribute [local irreducible] Calls Walk1 WalkTo Tri EndA
theorem works21_any (w : World) : Calls Try.prog 9 #[] w fun e w' => e = .returned (.bool true) ∧ Below w.heap.size w w' := by
  have ok4 : ∀ t ∈ apartL.take 4, t.ok := fun t h => apart_ok t (List.mem_of_mem_take h)
  have far4 : ∀ t ∈ apartL.take 4, farT t = false := fun t h => apart_far t (List.mem_of_mem_take h)
  have len4 : (apartL.take 4).length = 4 := by rw [List.length_take, apart_len]; rfl
  have cB1 := fun w v h => build_any apartL apart_ok (by rw [apart_len]; omega) (by rw [apart_len]; omega) apart_far v w h
  have cB2 := fun w v h => build_any (apartL.take 4) ok4 (by rw [len4]; omega) (by rw [len4]; omega) far4 v w h
  obtain ⟨M1, D1, hS1⟩ := sound_of apartL (fun t ht => near_of (apart_far t ht)) (by rw [apart_len]; omega)
  obtain ⟨M2, D2, hS2⟩ := sound_of (apartL.take 4) (fun t ht => near_of (far4 t ht)) (by rw [len4]; omega)
  have hN1 := apart_5
  have hN2 := apart_4
  have cS := fun v1 v2 vl w h1 h2 h3 => soundB_any apart_ok hS1 (by rw [apart_len]; omega) (by rw [apart_len]; omega) v1 v2 vl w h1 h2 h3
  have cL := fun v1 v2 w h1 => leaves_any hS2 (by rw [hN2]; omega) v1 v2 w h1
  rw [apart_l] at cL
  have cA := apart_any
  rw [apart_len] at cB1 cS
  rw [len4, ← apart_tk] at cB2
  rw [hN2] at cB2 cL
  generalize (treeL apartL).1.length = n1 at *
  generalize nodesC (treeL apartL).1 = NC1 at *
  generalize (treeL apartL).2.length = k1 at *
  generalize ordC (treeL apartL).2 = KC1 at *
  generalize nodesC (treeL (apartL.take 4)).1 = NC2 at *
  generalize (treeL (apartL.take 4)).2.length = k2 at *
  generalize ordC (treeL (apartL.take 4)).2 = KC2 at *
  generalize leavesL (treeL (apartL.take 4)).1 1 = LL at *
  generalize trisC apartL = TC at *
  clear hS1 hS2 ok4 far4 len4 hN2
  refine calls_tri Try.func9 rfl Try.ntmps9 rfl ?_
  repeat (first | (show Walk1 _ _ _ (_ :: _) _ _; first | (show HW1 (.assign _); refine wz2 ?_) | (show HW1 (.call ⟨.value (.func 19), _, _⟩); (refine walk1_callO rfl rfl rfl rfl (by kernel_rfl) evq rfl ?_; refine ⟨_, _, _, _, _, callO_0  (fun e w  => cA w), ?_⟩))) | refine go1 ?_ | refine end_block_other rfl ?_ | refine end_scope (fun _ h => by cases h) ?_ | (refine walk_endD ?_ ?_; (· kernel_rfl)) | refine tri_yesA rfl ?_ | refine tri_noA rfl ?_ | refine tri_trueA rfl ?_ | refine tri_falseA rfl ?_)
  refine walk1_callB (rb := [6]) (vs := [.v 6]) 901 902 rfl rfl rfl rfl evq rfl rfl (by kernel_rfl) (fun S' e a w' hS hq => cB1 w' _ ((rdn_own (n := 6) rfl) S' e a w' hq hS)) ?_
  repeat (first | (show Walk1 _ _ _ (_ :: _) _ _; first | (show HW1 (.move _); refine wz1 ?_) | (show HW1 (.alloc _); refine wz6 ?_) | (show HW1 (.extract _ _); refine wz84 ?_)) | refine go1 ?_ | refine end_block_other rfl ?_ | refine end_scope (fun _ h => by cases h) ?_ | (refine walk_endD ?_ ?_; (· kernel_rfl)) | refine tri_yesA rfl ?_ | refine tri_noA rfl ?_ | refine tri_trueA rfl ?_ | refine tri_falseA rfl ?_)
  refine walk1_b (op_storeB (q1 := 901) (q2 := 902) rfl rfl rfl rfl rfl (fun _ => rfl) rfl rfl rfl rfl (fun _ => rfl)) ?_
  repeat (first | (show Walk1 _ _ _ (_ :: _) _ _; first | (show HW1 (.assign _); refine wz2 ?_) | (show HW1 (.call ⟨.value (.func 19), _, _⟩); (refine walk1_callO rfl rfl rfl rfl (by kernel_rfl) evq rfl ?_; refine ⟨_, _, _, _, _, callO_0  (fun e w  => cA w), ?_⟩))) | refine go1 ?_ | refine end_block_other rfl ?_ | refine end_scope (fun _ h => by cases h) ?_ | (refine walk_endD ?_ ?_; (· kernel_rfl)) | refine tri_yesA rfl ?_ | refine tri_noA rfl ?_ | refine tri_trueA rfl ?_ | refine tri_falseA rfl ?_)
  refine walk1_t (op_cutV0 (hi := 4) rfl rfl rfl rfl rfl rfl rfl (evO_some ⟨_, rfl⟩) (by omega)) ?_
  refine walk1_callB (rb := [11]) (vs := [.sub 11 0 4]) 903 904 rfl rfl rfl rfl evq rfl rfl (by kernel_rfl) (fun S' e a w' hS hq => cB2 w' _ ((rdn_subV (n := 11) rfl (by omega)) S' e a w' hq hS)) ?_
  repeat (first | (show Walk1 _ _ _ (_ :: _) _ _; first | (show HW1 (.move _); refine wz1 ?_) | (show HW1 (.alloc _); refine wz6 ?_) | (show HW1 (.extract _ _); refine wz84 ?_)) | refine go1 ?_ | refine end_block_other rfl ?_ | refine end_scope (fun _ h => by cases h) ?_ | (refine walk_endD ?_ ?_; (· kernel_rfl)) | refine tri_yesA rfl ?_ | refine tri_noA rfl ?_ | refine tri_trueA rfl ?_ | refine tri_falseA rfl ?_)
  refine walk1_b (op_storeB (q1 := 903) (q2 := 904) rfl rfl rfl rfl rfl (fun _ => rfl) rfl rfl rfl rfl (fun _ => rfl)) ?_
  iterate 3 (try (first | (show Walk1 _ _ _ (_ :: _) _ _; (show HW1 (.assign _); refine wz2 ?_)) | refine go1 ?_ | refine end_block_other rfl ?_ | refine end_scope (fun _ h => by cases h) ?_ | (refine walk_endD ?_ ?_; (· kernel_rfl)) | refine tri_yesA rfl ?_ | refine tri_noA rfl ?_ | refine tri_trueA rfl ?_ | refine tri_falseA rfl ?_))
  refine tri_close rfl fun e w1 hb hr => ?_
  have r1 := fs_ownN (hr 901 _ rfl)
  have r2 := fs_ownN (hr 902 _ rfl)
  have r3 := fs_ownN (hr 903 _ rfl)
  have r4 : FS w1 2 (blkV (e 1).b) 1 [(e 901).v, (e 902).v] := fs_blkN (hr 1 _ rfl) rfl
  have r5 : FS w1 2 (blkV (e 3).b) 1 [(e 903).v, (e 904).v] := fs_blkN (hr 3 _ rfl) rfl
  refine tri_keep [(1, .c (ptrV (blkV (e 1).b) 0)), (2, .c (.int .i64 0)), (3, .c (ptrV (blkV (e 3).b) 0)), (4, .c (.int .i64 0))] [] (by repeat (first | exact hasT_nil | refine hasT_cons rfl ?_ | refine hasT_eq rfl (svi (by omega)) ?_)) (by exact hasR_nil) ?_
  clear hr
  generalize (e 901).v = v1 at *
  generalize (e 902).v = v2 at *
  generalize (e 903).v = v3 at *
  generalize (e 904).v = v4 at *
  generalize (e 1).b = b1 at *
  generalize (e 3).b = b3 at *
  obtain ⟨A1, hA1⟩ : ∃ A, A = [v1, v2] := ⟨_, rfl⟩
  obtain ⟨A2, hA2⟩ : ∃ A, A = [v3, v4] := ⟨_, rfl⟩
  rw [← hA1] at r4
  rw [← hA2] at r5
  have p0 : A1[0]? = some v1 := by rw [hA1]; rfl
  have p1 : A2[0]? = some v3 := by rw [hA2]; rfl
  have p2 : (A1.drop 0).take 2 = [v1, v2] := by rw [hA1]; rfl
  have p3 : (A2.drop 0).take 2 = [v3, v4] := by rw [hA2]; rfl
  have p4 : A1.length = 2 := by rw [hA1]; rfl
  have p5 : A2.length = 2 := by rw [hA2]; rfl
  clear hA1 hA2
  have hbw := hb
  clear hb
  repeat (first | (show WalkTo _ _ _ _ (_ :: _) _ _ _; first | (show WalkTo _ _ _ _ (⟨_, _, _, _, _, some _⟩ :: _) _ _ _; refine zy2 ?_) | (show HW2 (.move _); refine wz20 ?_) | (show HW2 (.assign _); refine wz17 ?_) | (show HW2 (.binOp .geq _ _ _ _); refine walk_t (op_geN rfl rfl rfl evn evn) ?_) | (show HW2 (.binOp .eql _ _ _ _); refine walk_t (op_eqN rfl rfl rfl evn evn) ?_) | (show HW2 (.pick _ _ _); refine wz90 ?_) | (show HW2 (.load _ _); first | refine walk_t (op_loadF rfl rfl rfl rfl rfl rfl rfl rva (by omega) (by assumption)) ?_ | refine wz58 ?_) | (show HW2 (.fieldAddr _ _ _); refine walk_t (op_fldF rfl rfl rfl rfl rva (by omega) rfl rfl off_zero) ?_) | (show HW2 (.call ⟨.builtin .len, _, _⟩); first | refine wz133 ?_ | refine wz134 ?_) | (show HW2 (.call ⟨.value (.func 19), _, _⟩); (refine walk_callO rfl rfl rfl rfl (by kernel_rfl) evq rfl ?_; refine ⟨_, _, _, _, _, callO_0  (fun e w  => cA w), ?_⟩)) | (show HW2 (.call ⟨.value (.func 15), _, _⟩); (refine cwalkM 15 ?_; refine ⟨[26], _, (fun S2 e a w hS hq => cS v1 v2 _ w (r1.anew (by omega) (hS.frame.below rfl)) (r2.anew (by omega) (hS.frame.below rfl)) (fs_ownN (hS.res 26 (.own 26 37 19 5 TC) ((hq 26 (by simp)).trans rfl)))), ?_⟩)) | (show HW2 (.call ⟨.value (.func 14), _, _⟩); (refine walk_callO rfl rfl rfl rfl (by kernel_rfl) evq rfl ?_; refine ⟨_, _, _, _, _, callO_1 (rdn_old r3.rd (by omega) rfl) (fun e w h1 => cL _ _ w ⟨h1, r3.2⟩), ?_⟩))) | refine go1 ?_ | refine end_block_other rfl ?_ | refine end_scope (fun _ h => by cases h) ?_ | (refine walk_endD ?_ ?_; (· kernel_rfl)) | refine tri_yesA rfl ?_ | refine tri_noA rfl ?_ | refine tri_trueA rfl ?_ | refine tri_falseA rfl ?_)
  trace_state
  refine end_ret (.c (.bool true)) (res_tmp rfl rfl) ?_
  exact fin_anew hbw fun _ => rfl
end Go.Proofs.Ytcgmapioelfneaa
namespace Go.Proofs.Ytcgmapioelfneaa
open Go.RowKit
set_option maxRecDepth 100000
set_option maxHeartbeats 4000000
attribute [local irreducible] Calls Walk1 WalkTo Tri EndA
theorem bvhHolds_walk (v : Value) (es : List TriS) (hok : ∀ e ∈ es, e.ok) (w : World) (hv : FS w 19 v es.length (trisC es)) :
    Calls Try.prog 4 #[v] w fun e w' => e = .returned (.bool true) ∧ Below w.heap.size w w' := by
  obtain ⟨D, u, hD, hDok, hfx, hcv⟩ := few21_cut hv hok
  have hrd := hv.rd
  have hsl := hv.2
  have cf := fun w h => few21_any es.length (trisC es) v w ⟨h, hsl⟩
  rw [hcv] at cf
  have cw := fun w => works21_any w
  obtain ⟨av, cv, rfl⟩ : ∃ a c, v = .slice a es.length c := by obtain ⟨_, a, c, h, _⟩ := hrd; exact ⟨a, c, h⟩
  obtain ⟨au, cu, rfl⟩ : ∃ a c, u = .slice a D.length c := by obtain ⟨_, a, c, h, _⟩ := hfx.rd; exact ⟨a, c, h⟩
  by_cases hfar : ∃ t ∈ D, farT t = true
  · have cN := fun w h => buildFar_any D hDok (by omega) hfar (.slice au D.length cu) w h
    refine calls_tri Try.func4 rfl Try.ntmps4 rfl ?_
    repeat (first | (show Walk1 _ _ _ (_ :: _) _ _; first | (show Walk1 _ _ _ (⟨_, _, _, _, _, some _⟩ :: _) _ _; refine zy1 ?_) | (show HW1 (.move _); refine wz1 ?_) | (show HW1 (.assign _); refine wz2 ?_) | (show HW1 (.binOp .eql _ _ _ _); refine wz30 ?_) | (show HW1 (.binOp .neq _ _ _ _); refine wz61 ?_) | (show HW1 (.pick _ _ _); refine wz8 ?_) | (show HW1 (.load _ _); refine wz3 ?_) | (show HW1 (.store _ _ _); refine wz14 ?_) | (show HW1 (.alloc _); refine wz6 ?_) | (show HW1 (.fieldAddr _ _ _); refine wz4 ?_) | (show HW1 (.extract _ _); first | refine wz16 ?_ | refine wz15 ?_) | (show HW1 (.call ⟨.builtin .len, _, _⟩); refine wz39 ?_) | (show HW1 (.call ⟨.value (.func 6), _, _⟩); (refine cwalk1M 6 ?_; refine ⟨_, _, callM_1 (rdn_old hrd (by omega) rfl) (fun e w h1 => cf w h1), ?_⟩)) | (show HW1 (.call ⟨.value (.func 7), _, _⟩); (refine cwalk1M 7 ?_; refine ⟨_, _, callM_1 (rdn_old hfx.rd (by omega) rfl) (fun e w h1 => cN w h1), ?_⟩)) | (show HW1 (.call ⟨.value (.func 9), _, _⟩); ((first | refine cwalk11 9 ?_ | refine cwalk10 9 ?_); refine ⟨_, fun e w => cw w, ?_⟩))) | refine go1 ?_ | refine end_block_other rfl ?_ | refine end_scope (fun _ h => by cases h) ?_ | (refine walk_endD ?_ ?_; (· kernel_rfl)) | refine tri_yesA rfl ?_ | refine tri_noA rfl ?_ | refine tri_trueA rfl ?_ | refine tri_falseA rfl ?_)
    refine end_ret (.c (.bool true)) (res_tmp rfl rfl) ?_
    exact fin_below fun _ => rfl
  · have hnf : ∀ t ∈ D, farT t = false := fun t ht => by
      cases hb : farT t with
      | false => rfl
      | true => exact absurd ⟨t, ht, hb⟩ hfar
    have cN := fun w h => build_all D hDok (by omega) hnf (.slice au D.length cu) w h
    refine calls_tri Try.func4 rfl Try.ntmps4 rfl ?_
    repeat (first | (show Walk1 _ _ _ (_ :: _) _ _; first | (show HW1 (.move _); refine wz1 ?_) | (show HW1 (.assign _); refine wz2 ?_) | (show HW1 (.call ⟨.value (.func 6), _, _⟩); (refine cwalk1M 6 ?_; refine ⟨_, _, callM_1 (rdn_old hrd (by omega) rfl) (fun e w h1 => cf w h1), ?_⟩))) | refine go1 ?_ | refine end_block_other rfl ?_ | refine end_scope (fun _ h => by cases h) ?_ | (refine walk_endD ?_ ?_; (· kernel_rfl)) | refine tri_yesA rfl ?_ | refine tri_noA rfl ?_ | refine tri_trueA rfl ?_ | refine tri_falseA rfl ?_)
    refine walk1_callB (rb := []) (vs := [.c (.slice au D.length cu)]) 901 902 rfl rfl rfl rfl evq rfl rfl (by kernel_rfl) (fun S' e a w' hS _ => cN w' (rdn_old (S := S') hfx.rd (by omega) rfl S' e a w' (fun _ h => by cases h) hS)) ?_
    repeat (first | (show Walk1 _ _ _ (_ :: _) _ _; first | (show HW1 (.move _); refine wz1 ?_) | (show HW1 (.alloc _); refine wz6 ?_) | (show HW1 (.extract _ _); refine wz84 ?_)) | refine go1 ?_ | refine end_block_other rfl ?_ | refine end_scope (fun _ h => by cases h) ?_ | (refine walk_endD ?_ ?_; (· kernel_rfl)) | refine tri_yesA rfl ?_ | refine tri_noA rfl ?_ | refine tri_trueA rfl ?_ | refine tri_falseA rfl ?_)
    refine walk1_b (op_storeB (q1 := 901) (q2 := 902) rfl rfl rfl rfl rfl (fun _ => rfl) rfl rfl rfl rfl (fun _ => rfl)) ?_
    iterate 4 (try (first | (show Walk1 _ _ _ (_ :: _) _ _; (show HW1 (.assign _); refine wz2 ?_)) | refine go1 ?_ | refine end_block_other rfl ?_ | refine end_scope (fun _ h => by cases h) ?_ | (refine walk_endD ?_ ?_; (· kernel_rfl)) | refine tri_yesA rfl ?_ | refine tri_noA rfl ?_ | refine tri_trueA rfl ?_ | refine tri_falseA rfl ?_))
    refine tri_close rfl fun e w1 hb hr => ?_
    have r1 := fs_ownN (hr 901 _ rfl)
    have r2 := fs_ownN (hr 902 _ rfl)
    have r4 : FS w1 2 (blkV (e 3).b) 1 [(e 901).v, (e 902).v] := fs_blkN (hr 3 _ rfl) rfl
    refine tri_keep [(4, .c (.int .i64 0)), (3, .c (ptrV (blkV (e 3).b) 0)), (0, .c (.slice au D.length cu))] [] (by repeat (first | exact hasT_nil | refine hasT_cons rfl ?_ | refine hasT_eq rfl (svi (by omega)) ?_)) (by exact hasR_nil) ?_
    have hvx := hfx.anew (by omega) hb
    clear hr cf cN hfx hrd hsl hv
    generalize (e 901).v = v1 at *
    generalize (e 902).v = v2 at *
    generalize (e 3).b = b3 at *
    obtain ⟨A1, hA1⟩ : ∃ A, A = [v1, v2] := ⟨_, rfl⟩
    rw [← hA1] at r4
    have p0 : A1[0]? = some v1 := by rw [hA1]; rfl
    have p1 : A1[1]? = some v2 := by rw [hA1]; rfl
    have p2 : (A1.drop 0).take 2 = [v1, v2] := by rw [hA1]; rfl
    have p4 : A1.length = 2 := by rw [hA1]; rfl
    clear hA1
    obtain ⟨M, DD, hSF⟩ := sound_of D (fun t ht => near_of (hnf t ht)) (by omega)
    generalize (treeL D).1 = NL at *
    generalize (treeL D).2 = KL at *
    have hNl := hSF.nl
    have hKl : KL.length = D.length := by rw [hSF.perm.length_eq, List.length_range]
    have hlenN := nodes_len NL
    have hrows := fun (i : Nat) (n : NodeS) (h : NL[i]? = some n) => node_row h
    obtain ⟨NC, hNC⟩ : ∃ N, N = nodesC NL := ⟨_, rfl⟩
    rw [← hNC] at r1 hlenN hrows
    repeat (first | (show Walk1 _ _ _ (_ :: _) _ _; first | (show HW1 (.move _); refine wz1 ?_) | (show HW1 (.binOp .neq _ _ _ _); refine wz61 ?_)) | refine go1 ?_ | refine end_block_other rfl ?_ | refine end_scope (fun _ h => by cases h) ?_ | (refine walk_endD ?_ ?_; (· kernel_rfl)) | refine tri_yesA rfl ?_ | refine tri_noA rfl ?_ | refine tri_trueA rfl ?_ | refine tri_falseA rfl ?_)
    refine walk1_gk (op_makeMap rfl rfl rfl rfl 2001) (by kernel_rfl) ?_
    repeat (first | (show Walk1 _ _ _ (_ :: _) _ _; first | (show HW1 (.move _); refine wz40 ?_) | (show HW1 (.assign _); refine wz2 ?_) | (show HW1 (.load _ _); refine wz44 ?_) | (show HW1 (.fieldAddr _ _ _); refine walk1_t (op_fldF rfl rfl rfl rfl rva (by omega) rfl rfl off_zero) ?_) | (show HW1 (.call ⟨.builtin .len, _, _⟩); refine wz27 ?_)) | refine go1 ?_ | refine end_block_other rfl ?_ | refine end_scope (fun _ h => by cases h) ?_ | (refine walk_endD ?_ ?_; (· kernel_rfl)) | refine tri_yesA rfl ?_ | refine tri_noA rfl ?_ | refine tri_trueA rfl ?_ | refine tri_falseA rfl ?_)
    refine tri_loop (X := Nat × Nat × (Int → Int)) (fun x => ⟨[(43, SV.c (.int .i64 ((x.1 : Nat) : Int))), (42, SV.c (.int .i64 ((NL.length : Nat) : Int))), (41, .c v1), (5, .mp 39), (3, .c (ptrV (blkV b3) 0)), (0, .c (.slice au D.length cu))], [(2001, some (.obj 39 mapO (x.2.1, x.2.2)))]⟩)
      (fun x => x.1 ≤ NL.length ∧ x.2.1 ≤ 2 * x.1 ∧ UpOK NL x.2.2 x.1) (fun x => NL.length - x.1) (0, 0, fun _ => 0) ⟨by dsimp only; omega, by dsimp only; omega, fun i n h => by dsimp only at h; omega⟩ (by exact ent_kp) ?_
    rintro ⟨i, q, f⟩ ⟨hi, hq, hu⟩ Q next
    dsimp only at hi hq hu ⊢
    by_cases h : i < NL.length
    · obtain ⟨nd, hnd⟩ : ∃ nd, NL[i]? = some nd := ⟨_, List.getElem?_eq_getElem h⟩
      have hrow := hrows i nd hnd
      have hrl : 0 + i * 10 + 10 ≤ NC.length := by omega
      have hk := hSF.nodes i nd hnd
      have hleaf := fun h => up_leaf hnd h hu
      have hfork := fun h => up_fork hSF hnd h hu
      have nx := fun S' q' f' => next S' (i + 1, q', f')
      clear next hrows cw
      obtain ⟨⟨lx, ly, lz⟩, ⟨hx, hy, hz⟩, le, ri, fi, co⟩ := nd
      rw [nodeC_row] at hrow
      rcases hk with ⟨f', c, ⟨e1, e2, e3, e4, _⟩, _⟩ | ⟨L, R, ⟨e1, e2, e3, e4, c1, c2, c3, c4⟩, _⟩
      · dsimp only at e1 e2 e3 e4 hleaf
        subst e1 e2 e3 e4
        have hu2 := hleaf rfl
        clear hfork hleaf hnd hu hSF
        repeat (first | (show Walk1 _ _ _ (_ :: _) _ _; first | (show HW1 (.move _); refine wz1 ?_) | (show HW1 (.assign _); refine wz2 ?_) | (show HW1 (.binOp .add _ _ _ _); refine wz10 ?_) | (show HW1 (.binOp .lss _ _ _ _); refine wz5 ?_) | (show HW1 (.binOp .geq _ _ _ _); refine wz71 ?_) | (show HW1 (.indexAddr _ _ _); refine wz26 ?_) | (show HW1 (.load _ _); first | refine wz3 ?_ | refine wz51 ?_) | (show HW1 (.store _ _ _); refine wz14 ?_) | (show HW1 (.alloc _); refine wz6 ?_) | (show HW1 (.fieldAddr _ _ _); refine wz4 ?_)) | refine go1 ?_ | refine end_block_other rfl ?_ | refine end_scope (fun _ h => by cases h) ?_ | (refine walk_endD ?_ ?_; (· kernel_rfl)) | refine tri_yesA rfl ?_ | refine tri_noA rfl ?_ | refine tri_trueA rfl ?_ | refine tri_falseA rfl ?_)
        exact nx _ q f ⟨by dsimp only; omega, by dsimp only; omega, hu2⟩ (by dsimp only; omega) (by exact ent_kp)
      · dsimp only at e1 e2 e3 e4 hfork
        subst e1 e2 e3 e4
        have hu2 := hfork (by omega)
        clear hfork hleaf hnd hu hSF
        repeat (first | (show Walk1 _ _ _ (_ :: _) _ _; first | (show HW1 (.move _); refine wz1 ?_) | (show HW1 (.assign _); refine wz2 ?_) | (show HW1 (.binOp .lss _ _ _ _); refine wz5 ?_) | (show HW1 (.binOp .geq _ _ _ _); refine wz70 ?_) | (show HW1 (.indexAddr _ _ _); refine wz26 ?_) | (show HW1 (.load _ _); first | refine wz3 ?_ | refine wz51 ?_) | (show HW1 (.store _ _ _); refine wz14 ?_) | (show HW1 (.alloc _); refine wz6 ?_) | (show HW1 (.fieldAddr _ _ _); refine wz4 ?_)) | (show WalkTo _ _ _ _ (_ :: _) _ _ _; first | (show HW2 (.move _); refine wz20 ?_) | (show HW2 (.load _ _); refine wz24 ?_) | (show HW2 (.fieldAddr _ _ _); refine wz49 ?_)) | refine go1 ?_ | refine end_block_other rfl ?_ | refine end_scope (fun _ h => by cases h) ?_ | (refine walk_endD ?_ ?_; (· kernel_rfl)) | refine tri_yesA rfl ?_ | refine tri_noA rfl ?_ | refine tri_trueA rfl ?_ | refine tri_falseA rfl ?_)
        refine walk_b (op_mapPut (k := 2001) rfl rfl rfl rfl rfl rfl rfl (by omega) (by omega) (by omega)) ?_
        refine walk_b (op_mapPut (k := 2001) rfl rfl rfl rfl rfl rfl rfl (by omega) (by omega) (by omega)) ?_
        repeat (first | (show Walk1 _ _ _ (_ :: _) _ _; first | (show HW1 (.move _); refine wz1 ?_) | (show HW1 (.binOp .add _ _ _ _); refine wz10 ?_)) | refine go1 ?_ | refine end_block_other rfl ?_ | refine end_scope (fun _ h => by cases h) ?_ | (refine walk_endD ?_ ?_; (· kernel_rfl)) | refine tri_yesA rfl ?_ | refine tri_noA rfl ?_ | refine tri_trueA rfl ?_ | refine tri_falseA rfl ?_)
        exact nx _ (q + 1 + 1) _ ⟨by dsimp only; omega, by dsimp only; omega, hu2⟩ (by dsimp only; omega) (by exact ent_kp)
    obtain rfl : i = NL.length := by omega
    clear next
    iterate 13 (try (first | (show Walk1 _ _ _ (_ :: _) _ _; (show HW1 (.binOp .lss _ _ _ _); refine wz5 ?_)) | refine go1 ?_ | refine end_block_other rfl ?_ | refine end_scope (fun _ h => by cases h) ?_ | (refine walk_endD ?_ ?_; (· kernel_rfl)) | refine tri_yesA rfl ?_ | refine tri_noA rfl ?_ | refine tri_trueA rfl ?_ | refine tri_falseA rfl ?_))
    refine tri_close rfl fun e w2 hb2 hr => ?_
    obtain ⟨_, hMp⟩ : (e 39).v = undef ∧ mapI w2 (e 39).b q f := hr 2001 _ rfl
    refine tri_keep [(5, .c (.map (some (e 39).b))), (3, .c (ptrV (blkV b3) 0)), (0, .c (.slice au D.length cu))] [] (by repeat (first | exact hasT_nil | refine hasT_cons rfl ?_ | refine hasT_eq rfl (svi (by omega)) ?_)) (by exact hasR_nil) ?_
    clear hr
    generalize (e 39).b = bm at *
    replace r1 := r1.anew (by omega) hb2
    replace r2 := r2.anew (by omega) hb2
    replace r4 := r4.anew (by omega) hb2
    replace hvx := hvx.anew (by omega) hb2
    have cL := fun w h => leaves_any hSF (by omega) v1 v2 w h
    rw [← hNC] at cL
    have hlf := fun j i (h : (leavesL NL NL.length)[j]? = some i) => leaf_in hSF h
    have hca := cnt_all hSF
    have hLl : (leavesL NL NL.length).length ≤ NL.length := by
      refine Nat.le_trans (List.length_filter_le _ _) ?_
      rw [List.length_range]; omega
    generalize leavesL NL NL.length = LL at *
    obtain ⟨SS, hSS⟩ : ∃ f : Nat → Nat, ∀ j, f j = sumF (cntN NL) (LL.take j) := ⟨_, fun _ => rfl⟩
    have hS0 : SS 0 = 0 := hSS 0
    have hSs : ∀ j i, LL[j]? = some i → SS (j + 1) = SS j + cntN NL i := fun j i h => by rw [hSS, hSS, cnt_step _ h]
    have hSe : SS LL.length = D.length := by rw [hSS, List.take_of_length_le (Nat.le_refl _), hca]
    have hSl : ∀ j, SS j ≤ D.length := fun j => by rw [hSS, ← hca]; exact cnt_take _ _ _
    clear hSS hca
    repeat (first | (show Walk1 _ _ _ (_ :: _) _ _; first | (show HW1 (.move _); refine wz40 ?_) | (show HW1 (.assign _); refine wz13 ?_) | (show HW1 (.load _ _); refine wz51 ?_) | (show HW1 (.call ⟨.builtin .len, _, _⟩); refine wz57 ?_) | (show HW1 (.call ⟨.value (.func 14), _, _⟩); (refine walk1_callO rfl rfl rfl rfl (by kernel_rfl) evq rfl ?_; refine ⟨[], _, _, _, _, (fun S2 e a w hS hq => cL w (r1.anew (by omega) (hS.frame.below rfl))), ?_⟩))) | refine go1 ?_ | refine end_block_other rfl ?_ | refine end_scope (fun _ h => by cases h) ?_ | (refine walk_endD ?_ ?_; (· kernel_rfl)) | refine tri_yesA rfl ?_ | refine tri_noA rfl ?_ | refine tri_trueA rfl ?_ | refine tri_falseA rfl ?_)
    refine tri_close rfl fun e w3 hb3 hr => ?_
    have rL := fs_ownN (hr 61 _ rfl)
    refine tri_keep [(63, SV.c (.int .i64 ((0 : Nat) : Int))), (62, SV.c (.int .i64 ((LL.length : Nat) : Int))), (61, .c (e 61).v), (8, SV.c (.int .i64 ((0 : Nat) : Int))), (5, .c (.map (some bm))), (3, .c (ptrV (blkV b3) 0)), (0, .c (.slice au D.length cu))] [] (by repeat (first | exact hasT_nil | refine hasT_cons rfl ?_ | refine hasT_eq rfl (svi (by omega)) ?_)) (by exact hasR_nil) ?_
    clear hr cL
    generalize (e 61).v = vL at *
    replace r1 := r1.anew (by omega) hb3
    replace r2 := r2.anew (by omega) hb3
    replace r4 := r4.anew (by omega) hb3
    replace hvx := hvx.anew (by omega) hb3
    replace hMp := mapI_kept hMp (hb3.block _ (mapI_lt hMp))
    refine tri_loop (X := Nat) (fun j => ⟨[(63, SV.c (.int .i64 ((j : Nat) : Int))), (62, SV.c (.int .i64 ((LL.length : Nat) : Int))), (61, .c vL), (8, SV.c (.int .i64 ((SS j : Nat) : Int))), (5, .c (.map (some bm))), (3, .c (ptrV (blkV b3) 0)), (0, .c (.slice au D.length cu))], []⟩)
      (fun j => j ≤ LL.length) (fun j => LL.length - j) 0 (by omega) (by rw [hS0]; exact ent_keep (by repeat (first | exact hasT_nil | refine hasT_cons rfl ?_ | refine hasT_eq rfl (svi (by omega)) ?_)) (by repeat (first | exact hasR_nil | refine hasR_cons rfl ?_))) ?_
    intro j hj Q2 next2
    by_cases h : j < LL.length
    · obtain ⟨i, hji⟩ : ∃ i, LL[j]? = some i := ⟨_, List.getElem?_eq_getElem h⟩
      obtain ⟨nd, f1, c, hnd, hil, ⟨e1, e2, e3, e4, e5, e6, _⟩, hMi, hcn⟩ := hlf j i hji
      have hiC := ordC_get hji
      have hrow := hrows i nd hnd
      have hrl : 0 + i * 10 + 10 ≤ NC.length := by omega
      have hSj := hSs j i hji
      have hSl1 := hSl (j + 1)
      have nx := fun S' => next2 S' (j + 1)
      rw [hSj, hcn] at nx hSl1
      obtain ⟨⟨lx, ly, lz⟩, ⟨hx, hy, hz⟩, le, ri, fi, co⟩ := nd
      rw [nodeC_row] at hrow
      dsimp only at e1 e2 e3 e4
      subst e1 e2 e3 e4
      have hMl : (M i).length = c := by rw [hMi, List.length_take, List.length_drop]; omega
      have hcut : FS w3 1 (cutV v2 f1 (f1 + c - f1)) (f1 + c - f1) (ordC (M i)) := by
        have h1 := r2.cut (lo := f1) (len := c) (by omega)
        rw [show f1 + c - f1 = c by omega, hMi, ordC_cut]
        exact h1
      have hMin : ∀ (x k : Nat), (M i)[x]? = some k → k < D.length ∧ k ∈ M i := fun x k h => ⟨List.mem_range.1 ((hSF.perm.mem_iff (a := k)).1 ((hSF.sub i).subset (List.mem_of_getElem? h))), List.mem_of_getElem? h⟩
      generalize SS j = s0 at *
      clear next2 hlf hSs hSe hSl hSj hnd hMi
      repeat (first | (show Walk1 _ _ _ (_ :: _) _ _; first | (show Walk1 _ _ _ (⟨_, _, _, _, _, some _⟩ :: _) _ _; refine zy1 ?_) | (show HW1 (.move _); first | refine wz40 ?_ | refine wz1 ?_) | (show HW1 (.assign _); refine wz2 ?_) | (show HW1 (.binOp .add _ _ _ _); refine wz10 ?_) | (show HW1 (.binOp .lss _ _ _ _); refine wz5 ?_) | (show HW1 (.binOp .gtr _ _ _ _); refine wz33 ?_) | (show HW1 (.pick _ _ _); refine wz7 ?_) | (show HW1 (.indexAddr _ _ _); first | refine wz80 ?_ | refine wz26 ?_) | (show HW1 (.load _ _); first | refine wz3 ?_ | refine wz44 ?_ | refine wz51 ?_) | (show HW1 (.store _ _ _); refine wz14 ?_) | (show HW1 (.alloc _); refine wz6 ?_) | (show HW1 (.fieldAddr _ _ _); first | refine wz4 ?_ | refine walk1_t (op_fldF rfl rfl rfl rfl rva (by omega) rfl rfl off_zero) ?_) | (show HW1 (.call ⟨.builtin .len, _, _⟩); refine wz27 ?_) | (show HW1 (.slice _ _ _ _ _); refine walk1_t (op_cutF rfl rfl rfl rfl rfl rfl) ?_)) | refine go1 ?_ | refine end_block_other rfl ?_ | refine end_scope (fun _ h => by cases h) ?_ | (refine walk_endD ?_ ?_; (· kernel_rfl)) | refine tri_yesA rfl ?_ | refine tri_noA rfl ?_ | refine tri_trueA rfl ?_ | refine tri_falseA rfl ?_)
      simp only [Nat.add_sub_cancel_left] at hcut ⊢
      generalize cutV v2 f1 c = vc at *
      refine tri_loop (X := Nat) (fun x => ⟨[(102, SV.c (.int .i64 ((x : Nat) : Int))), (101, SV.c (.int .i64 ((c : Nat) : Int))), (100, .c vc), (8, SV.c (.int .i64 ((s0 + x : Nat) : Int))), (10, SV.c (.int .i64 ((i : Nat) : Int))), (63, SV.c (.int .i64 ((j : Nat) : Int))), (62, SV.c (.int .i64 ((LL.length : Nat) : Int))), (61, .c vL), (5, .c (.map (some bm))), (3, .c (ptrV (blkV b3) 0)), (0, .c (.slice au D.length cu))], []⟩)
        (fun x => x ≤ c) (fun x => c - x) 0 (by omega) (by exact ent_kp) ?_
      intro x hx Q3 next3
      by_cases hxc : x < c
      · obtain ⟨k, hk⟩ : ∃ k, (M i)[x]? = some k := ⟨_, List.getElem?_eq_getElem (by omega)⟩
        obtain ⟨hkD, hkM⟩ := hMin x k hk
        have hkC := ordC_get hk
        obtain ⟨t, ht⟩ : ∃ t, D[k]? = some t := ⟨_, List.getElem?_eq_getElem hkD⟩
        have hp : RdV w3 3 (arrV (.slice au D.length cu) (0 + k * 19 + 0) 3) 3 (ptsC [t.p0, t.p1, t.p2]) := by rw [Nat.zero_add, Nat.add_zero]; exact tri_pts hvx.rd hDok ht
        have nx3 := fun S' => next3 S' (x + 1)
        have hoc : ∀ u ∈ ptsC [t.p0, t.p1, t.p2], u.oneCell' = true := fun u hu => by
          obtain ⟨p, _, hp⟩ := List.mem_flatMap.1 hu
          simp only [P3.c, List.mem_cons, List.not_mem_nil, or_false] at hp
          rcases hp with rfl | rfl | rfl <;> rfl
        have hgt := getD_of_tri ht
        have hvr := hvx.rd
        clear next3 hMin
        repeat (first | (show Walk1 _ _ _ (_ :: _) _ _; first | (show HW1 (.move _); refine wz1 ?_) | (show HW1 (.assign _); refine wz2 ?_) | (show HW1 (.binOp .add _ _ _ _); refine wz10 ?_) | (show HW1 (.binOp .lss _ _ _ _); refine wz5 ?_) | (show HW1 (.indexAddr _ _ _); refine wz80 ?_) | (show HW1 (.load _ _); refine wz44 ?_)) | refine go1 ?_ | refine end_block_other rfl ?_ | refine end_scope (fun _ h => by cases h) ?_ | (refine walk_endD ?_ ?_; (· kernel_rfl)) | refine tri_yesA rfl ?_ | refine tri_noA rfl ?_ | refine tri_trueA rfl ?_ | refine tri_falseA rfl ?_)
        refine tri_loop (X := Nat) (fun y => ⟨[(14, SV.c (.int .i64 ((y : Nat) : Int))), (13, SV.c (.int .i64 ((k : Nat) : Int))), (102, SV.c (.int .i64 ((x : Nat) : Int))), (101, SV.c (.int .i64 ((c : Nat) : Int))), (100, .c vc), (8, SV.c (.int .i64 ((s0 + x + 1 : Nat) : Int))), (10, SV.c (.int .i64 ((i : Nat) : Int))), (63, SV.c (.int .i64 ((j : Nat) : Int))), (62, SV.c (.int .i64 ((LL.length : Nat) : Int))), (61, .c vL), (5, .c (.map (some bm))), (3, .c (ptrV (blkV b3) 0)), (0, .c (.slice au D.length cu))], []⟩)
          (fun y => y < NL.length ∧ k ∈ M y) (fun y => y) i ⟨hil, hkM⟩ (by exact ent_kp) ?_
        rintro y ⟨hyl, hky⟩ Q4 next4
        obtain ⟨nd, hnd⟩ : ∃ nd, NL[y]? = some nd := ⟨_, List.getElem?_eq_getElem hyl⟩
        have hbx := box_in (hSF.box y nd hnd) hky
        rw [hgt] at hbx
        have hrow := hrows y nd hnd
        have hrl2 : 0 + y * 10 + 10 ≤ NC.length := by omega
        obtain ⟨⟨lx, ly, lz⟩, ⟨hx, hy, hz⟩, le, ri, fi, co⟩ := nd
        dsimp only at hbx
        have cB := fun v w h => boxT_any v (⟨lx, ly, lz⟩ :: ⟨hx, hy, hz⟩ :: cornersT t) w h (by simp [cornersT])
        rw [hbx] at cB
        have hpl : (ptsC [t.p0, t.p1, t.p2]).length = 3 * 3 := rfl
        have hpe : ptsC (⟨lx, ly, lz⟩ :: ⟨hx, hy, hz⟩ :: cornersT t) = (#[.int .i64 lx, .int .i64 ly, .int .i64 lz] ++ #[.int .i64 hx, .int .i64 hy, .int .i64 hz] : Array Value).toList ++ ptsC [t.p0, t.p1, t.p2] := rfl
        rw [hpe] at cB
        simp only [P3.c, show (⟨lx, ly, lz⟩ :: ⟨hx, hy, hz⟩ :: cornersT t).length = 2 + 3 from rfl] at cB
        have q1 := eqP_refl lx ly lz
        have q2 := eqP_refl hx hy hz
        rw [nodeC_row] at hrow
        have c1 : (NC.drop (0 + y * 10 + 0)).take 3 = [.int .i64 lx, .int .i64 ly, .int .i64 lz] := by
          have := congrArg (List.take 3) hrow
          rw [List.take_take] at this
          exact this
        have c2 : (NC.drop (0 + y * 10 + 3)).take 3 = [.int .i64 hx, .int .i64 hy, .int .i64 hz] := by
          have this : (((NC.drop (0 + y * 10)).take 10).drop 3).take 3 = _ := congrArg (fun z : List Value => (z.drop 3).take 3) hrow
          rwa [List.drop_take, List.take_take, List.drop_drop] at this
        have hpar := fun h0 => up_par hSF hu hyl h0 hky
        clear hrow hnd hbx hpe
        generalize ptsC [t.p0, t.p1, t.p2] = P9 at *
        repeat (first | (show WalkTo _ _ _ _ (_ :: _) _ _ _; first | (show HW2 (.move _); refine wz20 ?_) | (show HW2 (.indexAddr _ _ _); refine wz45 ?_) | (show HW2 (.load _ _); first | refine walk_t (op_loadF rfl rfl rfl rfl rfl rfl rfl rva (by omega) (by assumption)) ?_ | refine wz22 ?_ | refine wz58 ?_) | (show HW2 (.store _ _ _); refine wz48 ?_) | (show HW2 (.alloc _); refine wz43 ?_) | (show HW2 (.fieldAddr _ _ _); first | refine walk_t (op_fldF rfl rfl rfl rfl rva (by omega) rfl rfl off_zero) ?_ | refine wz62 ?_)) | refine go1 ?_ | refine end_block_other rfl ?_ | refine end_scope (fun _ h => by cases h) ?_ | (refine walk_endD ?_ ?_; (· kernel_rfl)) | refine tri_yesA rfl ?_ | refine tri_noA rfl ?_ | refine tri_trueA rfl ?_ | refine tri_falseA rfl ?_)
        refine walk_n (op_bsliceO2 rfl rfl rfl rfl rfl rfl rfl rfl rfl rfl rfl rfl rfl) (by kernel_rfl) ?_
        repeat (first | (show WalkTo _ _ _ _ (_ :: _) _ _ _; first | (show HW2 (.move _); refine wz20 ?_) | (show HW2 (.indexAddr _ _ _); refine wz45 ?_) | (show HW2 (.fieldAddr _ _ _); refine wz62 ?_) | (show HW2 (.slice _ _ _ _ _); refine walk_t (op_cutA rfl rfl rfl rfl rfl rfl (by assumption) (by omega)) ?_)) | refine go1 ?_ | refine end_block_other rfl ?_ | refine end_scope (fun _ h => by cases h) ?_ | (refine walk_endD ?_ ?_; (· kernel_rfl)) | refine tri_yesA rfl ?_ | refine tri_noA rfl ?_ | refine tri_trueA rfl ?_ | refine tri_falseA rfl ?_)
        refine walk_g (op_append rfl rfl rfl rfl rfl rfl rfl rfl rfl (by omega) (rdn_old hp (by omega) rfl) hoc (by omega) rfl) (by kernel_rfl) ?_
        repeat (first | (show Walk1 _ _ _ (_ :: _) _ _; first | (show Walk1 _ _ _ (⟨_, _, _, _, _, some _⟩ :: _) _ _; refine zy1 ?_) | (show HW1 (.move _); refine wz1 ?_) | (show HW1 (.binOp .eql _ _ _ _); refine wz30 ?_) | (show HW1 (.binOp .neq _ _ _ _); refine walk1_t (op_neR (by assumption) rfl rfl rfl rfl rfl (fun _ => rfl) (fun _ => rfl) (by kernel_rfl)) ?_) | (show HW1 (.pick _ _ _); refine wz7 ?_) | (show HW1 (.load _ _); refine wz9 ?_)) | (show WalkTo _ _ _ _ (_ :: _) _ _ _; first | (show HW2 (.move _); refine wz20 ?_) | (show HW2 (.store _ _ _); refine wz48 ?_) | (show HW2 (.alloc _); refine wz43 ?_) | (show HW2 (.extract _ _); first | refine wz60 ?_ | refine wz59 ?_) | (show HW2 (.call ⟨.value (.func 13), _, _⟩); (refine cwalkM 13 ?_; refine ⟨_, _, callM_1 (rdn_own rfl) (fun e w h1 => cB _ w h1), ?_⟩))) | refine go1 ?_ | refine end_block_other rfl ?_ | refine end_scope (fun _ h => by cases h) ?_ | (refine walk_endD ?_ ?_; (· kernel_rfl)) | refine tri_yesA rfl ?_ | refine tri_noA rfl ?_ | refine tri_trueA rfl ?_ | refine tri_falseA rfl ?_)
        by_cases hy0 : y = 0
        · clear hpar
          repeat (first | (show Walk1 _ _ _ (_ :: _) _ _; first | (show HW1 (.move _); refine wz1 ?_) | (show HW1 (.binOp .add _ _ _ _); refine wz10 ?_)) | refine go1 ?_ | refine end_block_other rfl ?_ | refine end_scope (fun _ h => by cases h) ?_ | (refine walk_endD ?_ ?_; (· kernel_rfl)) | refine tri_yesA rfl ?_ | refine tri_noA rfl ?_ | refine tri_trueA rfl ?_ | refine tri_falseA rfl ?_)
          exact nx3 _ (by omega) (by omega) (by exact ent_kp)
        · obtain ⟨p, hfp, g1, g2, g3⟩ := hpar hy0
          repeat (first | (show Walk1 _ _ _ (_ :: _) _ _; (show HW1 (.move _); refine wz1 ?_)) | refine go1 ?_ | refine end_block_other rfl ?_ | refine end_scope (fun _ h => by cases h) ?_ | (refine walk_endD ?_ ?_; (· kernel_rfl)) | refine tri_yesA rfl ?_ | refine tri_noA rfl ?_ | refine tri_trueA rfl ?_ | refine tri_falseA rfl ?_)
          refine walk1_t (op_mapGet rfl hMp rfl rfl rfl rfl rfl (by omega)) ?_
          rw [hfp]
          repeat (first | (show Walk1 _ _ _ (_ :: _) _ _; (show HW1 (.assign _); refine wz2 ?_)) | refine go1 ?_ | refine end_block_other rfl ?_ | refine end_scope (fun _ h => by cases h) ?_ | (refine walk_endD ?_ ?_; (· kernel_rfl)) | refine tri_yesA rfl ?_ | refine tri_noA rfl ?_ | refine tri_trueA rfl ?_ | refine tri_falseA rfl ?_)
          exact next4 _ p ⟨g2, g3⟩ g1 (by exact ent_kp)
      · obtain rfl : x = c := by omega
        clear next3
        repeat (first | (show Walk1 _ _ _ (_ :: _) _ _; first | (show HW1 (.move _); refine wz1 ?_) | (show HW1 (.binOp .add _ _ _ _); refine wz10 ?_) | (show HW1 (.binOp .lss _ _ _ _); refine wz5 ?_)) | refine go1 ?_ | refine end_block_other rfl ?_ | refine end_scope (fun _ h => by cases h) ?_ | (refine walk_endD ?_ ?_; (· kernel_rfl)) | refine tri_yesA rfl ?_ | refine tri_noA rfl ?_ | refine tri_trueA rfl ?_ | refine tri_falseA rfl ?_)
        exact nx _ (by omega) (by omega) (by exact ent_kp)
    · obtain rfl : j = LL.length := by omega
      rw [hSe]
      clear next2
      repeat (first | (show Walk1 _ _ _ (_ :: _) _ _; first | (show Walk1 _ _ _ (⟨_, _, _, _, _, some _⟩ :: _) _ _; refine zy1 ?_) | (show HW1 (.move _); refine wz1 ?_) | (show HW1 (.assign _); refine wz2 ?_) | (show HW1 (.binOp .lss _ _ _ _); refine wz5 ?_) | (show HW1 (.binOp .eql _ _ _ _); refine wz30 ?_) | (show HW1 (.pick _ _ _); refine wz8 ?_) | (show HW1 (.call ⟨.builtin .len, _, _⟩); refine wz39 ?_) | (show HW1 (.call ⟨.value (.func 9), _, _⟩); ((first | refine cwalk11 9 ?_ | refine cwalk10 9 ?_); refine ⟨_, fun e w => cw w, ?_⟩))) | refine go1 ?_ | refine end_block_other rfl ?_ | refine end_scope (fun _ h => by cases h) ?_ | (refine walk_endD ?_ ?_; (· kernel_rfl)) | refine tri_yesA rfl ?_ | refine tri_noA rfl ?_ | refine tri_trueA rfl ?_ | refine tri_falseA rfl ?_)
      refine end_ret (.c (.bool true)) (res_tmp rfl rfl) ?_
      exact fin_anew (below_andThen hb (below_andThen hb2 hb3)) fun _ => rfl
end Go.Proofs.Ytcgmapioelfneaa
