/- Where a ray meets a triangle: the program's: walked. No condition. A sweep: what it looks at: walked. No condition. Slices of rows made, filled from one that lay there; a struct built of an own slice. No condition. A sweep made new: walked. No condition. -/
import Derived.Test.YtcookaiakfbdiaaMgSymY
import Derived.Test.YtcookaiakfbdiaaSymX
import Derived.Laws.CopyRow
namespace Go.Proofs.Ytcookaiakfbdiaa
open Go.RowKit
set_option maxRecDepth 100000
set_option maxHeartbeats 2000000
def P9 (p0 p1 p2 : P3) : Array Value := #[.int .i64 p0.x, .int .i64 p0.y, .int .i64 p0.z, .int .i64 p1.x, .int .i64 p1.y, .int .i64 p1.z, .int .i64 p2.x, .int .i64 p2.y, .int .i64 p2.z]
theorem p9_sub (p0 p1 p2 : P3) : Sub (.c (P9 p0 p1 p2)) 0 3 (.c p0.c) ∧ Sub (.c (P9 p0 p1 p2)) 3 3 (.c p1.c) ∧ Sub (.c (P9 p0 p1 p2)) 6 3 (.c p2.c) :=
  ⟨fun _ => ⟨#[], #[.int .i64 p1.x, .int .i64 p1.y, .int .i64 p1.z, .int .i64 p2.x, .int .i64 p2.y, .int .i64 p2.z], rfl, rfl, rfl⟩,
   fun _ => ⟨p0.c, p2.c, rfl, rfl, rfl⟩,
   fun _ => ⟨#[.int .i64 p0.x, .int .i64 p0.y, .int .i64 p0.z, .int .i64 p1.x, .int .i64 p1.y, .int .i64 p1.z], #[], rfl, rfl, rfl⟩⟩
theorem p9_pts (p0 p1 p2 : P3) : (P9 p0 p1 p2).toList = ptsC [p0, p1, p2] := rfl
theorem p3_one (p : P3) : p.c.all (·.oneCell') = true := by simp [P3.c]; exact ⟨rfl, rfl, rfl⟩
attribute [local irreducible] Calls Walk1 WalkTo Tri EndA
theorem hitT_any (o d p0 p1 p2 : P3) (w : World) : Calls Try.prog 13 #[.agg o.c, .agg d.c, .agg (P9 p0 p1 p2)] w fun e w' => e = .returned (.tuple #[.agg (hitM o d p0 p1 p2).1.c, .bool (hitM o d p0 p1 p2).2]) ∧ Below w.heap.size w w' := by
  have cM := fun w => mayT_any o d w
  have cC := fun v w h => containsFunc_any v [p0, p1, p2] w h (by simp)
  have cE := fun w => subT_any p1 p0 w
  have cF := fun w => subT_any p2 p0 w
  have cA := fun w => crossT_any d (subP p2 p0) w
  have cS := fun w => subT_any o p0 w
  have cB := fun w => crossT_any (subP o p0) (subP p1 p0) w
  have d1 := fun w => dotT_any (subP p2 p0) (crossP (subP o p0) (subP p1 p0)) w
  have d2 := fun w => dotT_any (subP p1 p0) (crossP d (subP p2 p0)) w
  have d3 := fun w => dotT_any (subP o p0) (crossP d (subP p2 p0)) w
  have d4 := fun w => dotT_any d (crossP (subP o p0) (subP p1 p0)) w
  obtain ⟨s0, s1, s2⟩ := p9_sub p0 p1 p2
  have hpts := p9_pts p0 p1 p2
  have hPs : (P9 p0 p1 p2).size = 9 := rfl
  have hdl : [p0, p1, p2].length = 3 := rfl
  unfold hitM rawM
  generalize mayP o d = MY at *
  generalize [p0, p1, p2].any outF = AN at *
  rw [← hpts] at cC
  clear hpts
  generalize dotP (subP p2 p0) (crossP (subP o p0) (subP p1 p0)) = n1 at *
  generalize dotP (subP p1 p0) (crossP d (subP p2 p0)) = n2 at *
  generalize dotP (subP o p0) (crossP d (subP p2 p0)) = n3 at *
  generalize dotP d (crossP (subP o p0) (subP p1 p0)) = n4 at *
  have z1 := (show ∀ p : P3, p.c.size = 3 from fun _ => rfl)
  have y1 := p3_one
  have a1 := z1 o; have a2 := z1 d; have a3 := z1 p0; have a4 := z1 p1; have a5 := z1 p2
  have a6 := z1 (subP p1 p0); have a7 := z1 (subP p2 p0); have a8 := z1 (subP o p0); have a9 := z1 (crossP d (subP p2 p0)); have a10 := z1 (crossP (subP o p0) (subP p1 p0))
  have b6 := y1 (subP p1 p0); have b7 := y1 (subP p2 p0); have b8 := y1 (subP o p0); have b9 := y1 (crossP d (subP p2 p0)); have b10 := y1 (crossP (subP o p0) (subP p1 p0))
  clear z1 y1
  generalize (crossP (subP o p0) (subP p1 p0)).c = XB at *
  generalize (crossP d (subP p2 p0)).c = XA at *
  generalize (subP p1 p0).c = XE at *
  generalize (subP p2 p0).c = XF at *
  generalize (subP o p0).c = XS at *
  generalize P9 p0 p1 p2 = PP at *
  generalize o.c = XO at *
  generalize d.c = XD at *
  generalize p0.c = X0 at *
  generalize p1.c = X1 at *
  generalize p2.c = X2 at *
  by_cases hgo : (MY && !AN) = true
  · simp only [Bool.and_eq_true, Bool.not_eq_true'] at hgo
    obtain ⟨rfl, rfl⟩ := hgo
    rw [if_pos (by rfl)]
    refine calls_tri Try.func13 rfl Try.ntmps13 rfl ?_
    repeat (first | (show Walk1 _ _ _ (_ :: _) _ _; first | (show Walk1 _ _ _ (⟨_, _, _, _, _, some _⟩ :: _) _ _; refine zy1 ?_) | (show HW1 (.move _); refine wz1 ?_) | (show HW1 (.assign _); refine wz2 ?_) | (show HW1 (.binOp .lss _ _ _ _); refine wz12 ?_) | (show HW1 (.pick _ _ _); refine wz7 ?_) | (show HW1 (.unOp _ _ _); refine wz19 ?_) | (show HW1 (.indexAddr _ _ _); refine wz103 ?_) | (show HW1 (.load _ _); first | refine wz3 ?_ | refine wz9 ?_ | refine wz100 ?_) | (show HW1 (.store _ _ _); refine wz23 ?_) | (show HW1 (.alloc _); refine wz6 ?_) | (show HW1 (.box _ _); refine wz11 ?_) | (show HW1 (.fieldAddr _ _ _); refine wz4 ?_) | (show HW1 (.slice _ _ _ _ _); refine wz63 ?_) | (show HW1 (.call ⟨.value (.func 12), _, _⟩); ((first | refine cwalk11 12 ?_ | refine cwalk10 12 ?_); refine ⟨_, fun e w => cM w, ?_⟩)) | (show HW1 (.call ⟨.value (.func 31), _, _⟩); (refine cwalk1M 31 ?_; refine ⟨_, _, callM_1 ((rdn_row rfl hPs)) (fun e w h1 => cC _ w h1), ?_⟩)) | (show HW1 (.call ⟨.value (.func 32), _, _⟩); ((first | refine cwalk11 32 ?_ | refine cwalk10 32 ?_); refine ⟨_, fun e w => cE w, ?_⟩)) | (show HW1 (.call ⟨.value (.func 32), _, _⟩); ((first | refine cwalk11 32 ?_ | refine cwalk10 32 ?_); refine ⟨_, fun e w => cF w, ?_⟩)) | (show HW1 (.call ⟨.value (.func 32), _, _⟩); ((first | refine cwalk11 32 ?_ | refine cwalk10 32 ?_); refine ⟨_, fun e w => cS w, ?_⟩)) | (show HW1 (.call ⟨.value (.func 33), _, _⟩); ((first | refine cwalk11 33 ?_ | refine cwalk10 33 ?_); refine ⟨_, fun e w => cA w, ?_⟩)) | (show HW1 (.call ⟨.value (.func 33), _, _⟩); ((first | refine cwalk11 33 ?_ | refine cwalk10 33 ?_); refine ⟨_, fun e w => cB w, ?_⟩))) | (show WalkTo _ _ _ _ (_ :: _) _ _ _; first | (show HW2 (.indexAddr _ _ _); refine wz92 ?_) | (show HW2 (.load _ _); first | refine wz22 ?_ | refine wz131 ?_) | (show HW2 (.store _ _ _); first | refine wz36 ?_ | refine walk_b (op_storesM rfl rfl rfl rfl rfl rfl rfl) ?_) | (show HW2 (.alloc _); refine wz43 ?_) | (show HW2 (.build _ _); refine walk_t (op_buildS rfl rfl rfl rfl) ?_) | (show HW2 (.call ⟨.value (.func 32), _, _⟩); ((first | refine cwalk1 32 ?_ | refine cwalk0 32 ?_); refine ⟨_, fun e w => cE w, ?_⟩)) | (show HW2 (.call ⟨.value (.func 32), _, _⟩); ((first | refine cwalk1 32 ?_ | refine cwalk0 32 ?_); refine ⟨_, fun e w => cF w, ?_⟩)) | (show HW2 (.call ⟨.value (.func 32), _, _⟩); ((first | refine cwalk1 32 ?_ | refine cwalk0 32 ?_); refine ⟨_, fun e w => cS w, ?_⟩)) | (show HW2 (.call ⟨.value (.func 34), _, _⟩); ((first | refine cwalk1 34 ?_ | refine cwalk0 34 ?_); refine ⟨_, fun e w => d1 w, ?_⟩)) | (show HW2 (.call ⟨.value (.func 34), _, _⟩); ((first | refine cwalk1 34 ?_ | refine cwalk0 34 ?_); refine ⟨_, fun e w => d2 w, ?_⟩)) | (show HW2 (.call ⟨.value (.func 34), _, _⟩); ((first | refine cwalk1 34 ?_ | refine cwalk0 34 ?_); refine ⟨_, fun e w => d3 w, ?_⟩)) | (show HW2 (.call ⟨.value (.func 34), _, _⟩); ((first | refine cwalk1 34 ?_ | refine cwalk0 34 ?_); refine ⟨_, fun e w => d4 w, ?_⟩))) | refine go1 ?_ | refine end_block_other rfl ?_ | refine end_scope (fun _ h => by cases h) ?_ | (refine walk_endD ?_ ?_; (· kernel_rfl)) | refine tri_yesA rfl ?_ | refine tri_noA rfl ?_ | refine tri_trueA rfl ?_ | refine tri_falseA rfl ?_)
    refine tri_ent (ent_blkA 6 (.c #[.int .i64 n1, .int .i64 n2, .int .i64 n3, .int .i64 n4]) rfl (fun _ => rfl)) ?_
    refine tri_normK ⟨[(6, .p 6 0)], [(6, some (.blk 6 41 (.c (turnM ⟨n1, n2, n3, n4⟩).c)))]⟩ ?_ fun Q' hex _ => ?_
    rotate_left
    · refine tri_dec rfl (fun hneg => ?_) (fun hneg => ?_)
      · have ht : turnM ⟨n1, n2, n3, n4⟩ = ⟨nW n1, nW n2, nW n3, nW n4⟩ := by rw [turnM, if_pos (by simpa using hneg)]
        rw [ht] at hex
        repeat (first | (show Walk1 _ _ _ (_ :: _) _ _; first | (show HW1 (.unOp _ _ _); refine wz113 ?_) | (show HW1 (.load _ _); refine wz3 ?_) | (show HW1 (.store _ _ _); refine wz28 ?_) | (show HW1 (.fieldAddr _ _ _); refine wz4 ?_) | (show HW1 (.build _ _); refine wz25 ?_)) | refine go1 ?_ | refine end_block_other rfl ?_ | refine end_scope (fun _ h => by cases h) ?_ | (refine walk_endD ?_ ?_; (· kernel_rfl)) | refine tri_yesA rfl ?_ | refine tri_noA rfl ?_ | refine tri_trueA rfl ?_ | refine tri_falseA rfl ?_)
        refine end_ent (ent_blkA 6 (.c (M4.c ⟨nW n1, nW n2, nW n3, nW n4⟩)) rfl (fun _ => rfl)) ?_
        exact hex _ (ent_keep (by repeat (first | exact hasT_nil | refine hasT_cons rfl ?_ | refine hasT_eq rfl (svi (by omega)) ?_)) (by repeat (first | exact hasR_nil | refine hasR_cons rfl ?_)))
      · have ht : turnM ⟨n1, n2, n3, n4⟩ = ⟨n1, n2, n3, n4⟩ := by rw [turnM, if_neg (by simpa using hneg)]
        rw [ht] at hex
        repeat (first | refine go1 ?_ | refine end_block_other rfl ?_ | refine end_scope (fun _ h => by cases h) ?_ | (refine walk_endD ?_ ?_; (· kernel_rfl)) | refine tri_yesA rfl ?_ | refine tri_noA rfl ?_ | refine tri_trueA rfl ?_ | refine tri_falseA rfl ?_)
        refine end_ent (ent_blkA 6 (.c (M4.c ⟨n1, n2, n3, n4⟩)) rfl (fun _ => rfl)) ?_
        exact hex _ (ent_keep (by repeat (first | exact hasT_nil | refine hasT_cons rfl ?_ | refine hasT_eq rfl (svi (by omega)) ?_)) (by repeat (first | exact hasR_nil | refine hasR_cons rfl ?_)))
    generalize turnM ⟨n1, n2, n3, n4⟩ = m
    obtain ⟨n, det, u, v⟩ := m
    have hsm : (M4.c ⟨n, det, u, v⟩).size = 4 := rfl
    simp only [M4.c] at hsm ⊢
    clear cM cC cE cF cA cS cB d1 d2 d3 d4 s0 s1 s2 hPs hdl a1 a2 a3 a4 a5 a6 a7 a8 a9 a10 b6 b7 b8 b9 b10
    have hbad : ∀ hb : badM ⟨n, det, u, v⟩, endM ⟨n, det, u, v⟩ = (zM, false) := fun hb => by rw [endM, if_pos hb]
    by_cases h1 : det = 0
    · rw [hbad (.inl h1)]
      repeat (first | (show Walk1 _ _ _ (_ :: _) _ _; first | (show Walk1 _ _ _ (⟨_, _, _, _, _, some _⟩ :: _) _ _; refine zn1 ?_) | (show HW1 (.move _); refine wz1 ?_) | (show HW1 (.assign _); refine wz2 ?_) | (show HW1 (.binOp .eql _ _ _ _); refine wz18 ?_) | (show HW1 (.pick _ _ _); refine wz8 ?_) | (show HW1 (.load _ _); refine wz3 ?_) | (show HW1 (.store _ _ _); refine wz14 ?_) | (show HW1 (.fieldAddr _ _ _); refine wz4 ?_) | (show HW1 (.build _ _); refine wz32 ?_)) | refine go1 ?_ | refine end_block_other rfl ?_ | refine end_scope (fun _ h => by cases h) ?_ | (refine walk_endD ?_ ?_; (· kernel_rfl)) | refine tri_yesA rfl ?_ | refine tri_noA rfl ?_ | refine tri_trueA rfl ?_ | refine tri_falseA rfl ?_)
      refine end_ret (.c (.tuple #[.agg zM.c, .bool false])) (res_cellT rfl rfl rfl rfl rfl rfl rfl rfl) ?_
      exact fin_below fun _ => rfl
    by_cases h2 : u < 0
    · rw [hbad (.inr (.inl h2))]
      repeat (first | (show Walk1 _ _ _ (_ :: _) _ _; first | (show Walk1 _ _ _ (⟨_, _, _, _, _, some _⟩ :: _) _ _; first | refine zy1 ?_ | refine zn1 ?_) | (show HW1 (.move _); refine wz1 ?_) | (show HW1 (.assign _); refine wz2 ?_) | (show HW1 (.binOp .lss _ _ _ _); refine wz12 ?_) | (show HW1 (.binOp .eql _ _ _ _); refine wz18 ?_) | (show HW1 (.pick _ _ _); first | refine wz8 ?_ | refine wz7 ?_) | (show HW1 (.load _ _); refine wz3 ?_) | (show HW1 (.store _ _ _); refine wz14 ?_) | (show HW1 (.fieldAddr _ _ _); refine wz4 ?_) | (show HW1 (.build _ _); refine wz32 ?_)) | refine go1 ?_ | refine end_block_other rfl ?_ | refine end_scope (fun _ h => by cases h) ?_ | (refine walk_endD ?_ ?_; (· kernel_rfl)) | refine tri_yesA rfl ?_ | refine tri_noA rfl ?_ | refine tri_trueA rfl ?_ | refine tri_falseA rfl ?_)
      refine end_ret (.c (.tuple #[.agg zM.c, .bool false])) (res_cellT rfl rfl rfl rfl rfl rfl rfl rfl) ?_
      exact fin_below fun _ => rfl
    by_cases h3 : v < 0
    · rw [hbad (.inr (.inr (.inl h3)))]
      repeat (first | (show Walk1 _ _ _ (_ :: _) _ _; first | (show Walk1 _ _ _ (⟨_, _, _, _, _, some _⟩ :: _) _ _; first | refine zy1 ?_ | refine zn1 ?_) | (show HW1 (.move _); refine wz1 ?_) | (show HW1 (.assign _); refine wz2 ?_) | (show HW1 (.binOp .lss _ _ _ _); refine wz12 ?_) | (show HW1 (.binOp .eql _ _ _ _); refine wz18 ?_) | (show HW1 (.pick _ _ _); first | refine wz8 ?_ | refine wz7 ?_) | (show HW1 (.load _ _); refine wz3 ?_) | (show HW1 (.store _ _ _); refine wz14 ?_) | (show HW1 (.fieldAddr _ _ _); refine wz4 ?_) | (show HW1 (.build _ _); refine wz32 ?_)) | refine go1 ?_ | refine end_block_other rfl ?_ | refine end_scope (fun _ h => by cases h) ?_ | (refine walk_endD ?_ ?_; (· kernel_rfl)) | refine tri_yesA rfl ?_ | refine tri_noA rfl ?_ | refine tri_trueA rfl ?_ | refine tri_falseA rfl ?_)
      refine end_ret (.c (.tuple #[.agg zM.c, .bool false])) (res_cellT rfl rfl rfl rfl rfl rfl rfl rfl) ?_
      exact fin_below fun _ => rfl
    by_cases h4 : det < aW u v
    · rw [hbad (.inr (.inr (.inr (.inl h4))))]
      repeat (first | (show Walk1 _ _ _ (_ :: _) _ _; first | (show Walk1 _ _ _ (⟨_, _, _, _, _, some _⟩ :: _) _ _; first | refine zy1 ?_ | refine zn1 ?_) | (show HW1 (.move _); refine wz1 ?_) | (show HW1 (.assign _); refine wz2 ?_) | (show HW1 (.binOp .add _ _ _ _); refine wz53 ?_) | (show HW1 (.binOp .lss _ _ _ _); refine wz12 ?_) | (show HW1 (.binOp .gtr _ _ _ _); refine wz21 ?_) | (show HW1 (.binOp .eql _ _ _ _); refine wz18 ?_) | (show HW1 (.pick _ _ _); first | refine wz8 ?_ | refine wz7 ?_) | (show HW1 (.load _ _); refine wz3 ?_) | (show HW1 (.store _ _ _); refine wz14 ?_) | (show HW1 (.fieldAddr _ _ _); refine wz4 ?_) | (show HW1 (.build _ _); refine wz32 ?_)) | refine go1 ?_ | refine end_block_other rfl ?_ | refine end_scope (fun _ h => by cases h) ?_ | (refine walk_endD ?_ ?_; (· kernel_rfl)) | refine tri_yesA rfl ?_ | refine tri_noA rfl ?_ | refine tri_trueA rfl ?_ | refine tri_falseA rfl ?_)
      refine end_ret (.c (.tuple #[.agg zM.c, .bool false])) (res_cellT rfl rfl rfl rfl rfl rfl rfl rfl) ?_
      exact fin_below fun _ => rfl
    by_cases h5 : n ≤ 0
    · rw [hbad (.inr (.inr (.inr (.inr h5))))]
      repeat (first | (show Walk1 _ _ _ (_ :: _) _ _; first | (show Walk1 _ _ _ (⟨_, _, _, _, _, some _⟩ :: _) _ _; refine zy1 ?_) | (show HW1 (.move _); refine wz1 ?_) | (show HW1 (.assign _); refine wz2 ?_) | (show HW1 (.binOp .add _ _ _ _); refine wz53 ?_) | (show HW1 (.binOp .lss _ _ _ _); refine wz12 ?_) | (show HW1 (.binOp .leq _ _ _ _); refine wz75 ?_) | (show HW1 (.binOp .gtr _ _ _ _); refine wz21 ?_) | (show HW1 (.binOp .eql _ _ _ _); refine wz18 ?_) | (show HW1 (.pick _ _ _); refine wz7 ?_) | (show HW1 (.load _ _); refine wz3 ?_) | (show HW1 (.store _ _ _); refine wz14 ?_) | (show HW1 (.fieldAddr _ _ _); refine wz4 ?_) | (show HW1 (.build _ _); refine wz32 ?_)) | refine go1 ?_ | refine end_block_other rfl ?_ | refine end_scope (fun _ h => by cases h) ?_ | (refine walk_endD ?_ ?_; (· kernel_rfl)) | refine tri_yesA rfl ?_ | refine tri_noA rfl ?_ | refine tri_trueA rfl ?_ | refine tri_falseA rfl ?_)
      refine end_ret (.c (.tuple #[.agg zM.c, .bool false])) (res_cellT rfl rfl rfl rfl rfl rfl rfl rfl) ?_
      exact fin_below fun _ => rfl
    have hgood : endM ⟨n, det, u, v⟩ = (⟨n, det, u, v⟩, true) := by
      rw [endM, if_neg]
      rintro (h | h | h | h | h) <;> contradiction
    rw [hgood]
    repeat (first | (show Walk1 _ _ _ (_ :: _) _ _; first | (show Walk1 _ _ _ (⟨_, _, _, _, _, some _⟩ :: _) _ _; refine zy1 ?_) | (show HW1 (.move _); refine wz1 ?_) | (show HW1 (.assign _); refine wz2 ?_) | (show HW1 (.binOp .add _ _ _ _); refine wz53 ?_) | (show HW1 (.binOp .lss _ _ _ _); refine wz12 ?_) | (show HW1 (.binOp .leq _ _ _ _); refine wz75 ?_) | (show HW1 (.binOp .gtr _ _ _ _); refine wz21 ?_) | (show HW1 (.binOp .eql _ _ _ _); refine wz18 ?_) | (show HW1 (.pick _ _ _); refine wz7 ?_) | (show HW1 (.load _ _); first | refine wz3 ?_ | refine wz9 ?_) | (show HW1 (.store _ _ _); refine wz14 ?_) | (show HW1 (.fieldAddr _ _ _); refine wz4 ?_)) | refine go1 ?_ | refine end_block_other rfl ?_ | refine end_scope (fun _ h => by cases h) ?_ | (refine walk_endD ?_ ?_; (· kernel_rfl)) | refine tri_yesA rfl ?_ | refine tri_noA rfl ?_ | refine tri_trueA rfl ?_ | refine tri_falseA rfl ?_)
    refine end_ret (.c (.tuple #[.agg (M4.c ⟨n, det, u, v⟩), .bool true])) (res_cellT rfl rfl rfl rfl rfl rfl rfl rfl) ?_
    exact fin_below fun _ => rfl
  · rw [if_neg hgo]
    cases MY <;> cases AN
    all_goals first | exact absurd rfl hgo | skip
    all_goals
      refine calls_tri Try.func13 rfl Try.ntmps13 rfl ?_
      repeat (first | (show Walk1 _ _ _ (_ :: _) _ _; first | (show Walk1 _ _ _ (⟨_, _, _, _, _, some _⟩ :: _) _ _; first | refine zy1 ?_ | refine zn1 ?_) | (show HW1 (.move _); refine wz1 ?_) | (show HW1 (.assign _); refine wz2 ?_) | (show HW1 (.pick _ _ _); first | refine wz8 ?_ | refine wz7 ?_) | (show HW1 (.unOp _ _ _); refine wz19 ?_) | (show HW1 (.load _ _); refine wz9 ?_) | (show HW1 (.store _ _ _); refine wz14 ?_) | (show HW1 (.alloc _); refine wz6 ?_) | (show HW1 (.box _ _); refine wz11 ?_) | (show HW1 (.slice _ _ _ _ _); refine wz63 ?_) | (show HW1 (.call ⟨.value (.func 12), _, _⟩); ((first | refine cwalk11 12 ?_ | refine cwalk10 12 ?_); refine ⟨_, fun e w => cM w, ?_⟩)) | (show HW1 (.call ⟨.value (.func 31), _, _⟩); (refine cwalk1M 31 ?_; refine ⟨_, _, callM_1 ((rdn_row rfl hPs)) (fun e w h1 => cC _ w h1), ?_⟩))) | refine go1 ?_ | refine end_block_other rfl ?_ | refine end_scope (fun _ h => by cases h) ?_ | (refine walk_endD ?_ ?_; (· kernel_rfl)) | refine tri_yesA rfl ?_ | refine tri_noA rfl ?_ | refine tri_trueA rfl ?_ | refine tri_falseA rfl ?_)
      refine end_ret (.c (.tuple #[.agg zM.c, .bool false])) (res_cellT rfl rfl rfl rfl rfl rfl rfl rfl) ?_
      exact fin_below fun _ => rfl
end Go.Proofs.Ytcookaiakfbdiaa
namespace Go.Proofs.Ytcookaiakfbdiaa
open Go.RowKit
set_option maxRecDepth 100000
set_option maxHeartbeats 2000000
theorem op_loadsQ {C : Ctx} {ops : Array Oper} {S : St} {o : Oper} {ty : TypeId} {x : Operand} {n off len sz m : Nat} {T0 : TypeId} {xs B : List Value} {d : TypeDesc} (ho : o.op = .load ty x) (hg : o.guard = none) (hd : dstB o.dst C.nt = true) (hx : S.ev x = some (.vp n off)) (hr : S.res n = some (.own n T0 sz len xs)) (hu' : tabLook undT ty = some d) (hda : d.isRow = true) (hi' : tabLook sizT ty = some m) (hm : 0 < m) (hb : off + m ≤ xs.length) (hB : (xs.drop off).take m = B) :
    OpG C Try.prog ops o S ⟨opT x, [n], dw o.dst (.c (.agg B.toArray)), [], []⟩ :=
  op_loadsV ho hg hd hx hr hu' hda hi' hm hb (by rw [hB])
/-- A triangle. -/
structure TriS where
  p0 : P3
  p1 : P3
  p2 : P3
  rest : List Value
  mask : BitVec 8
def TriS.ok (t : TriS) : Prop := t.rest.length = 9 ∧ ∀ u ∈ t.rest, u.oneCell' = true
def triC (t : TriS) : List Value := (P9 t.p0 t.p1 t.p2).toList ++ (t.rest ++ [.int .u8 (bvi t.mask)])
def trisC (l : List TriS) : List Value := l.flatMap triC
theorem triC_length (t : TriS) (h : t.ok) : (triC t).length = 19 := by
  rw [triC, List.length_append, List.length_append, h.1]; rfl
theorem tris_len (l : List TriS) (h : ∀ t ∈ l, t.ok) : (trisC l).length = l.length * 19 := flat_length l fun t ht => triC_length t (h t ht)
theorem tris_P (l : List TriS) (h : ∀ t ∈ l, t.ok) (k : Nat) (t : TriS) (ht : l[k]? = some t) : ((trisC l).drop (k * 19)).take 9 = (P9 t.p0 t.p1 t.p2).toList := by
  have hr := flat_row l (fun t ht => triC_length t (h t ht)) k t ht
  have : ((trisC l).drop (k * 19)).take 9 = (((l.flatMap triC).drop (k * 19)).take 19).take 9 := by rw [List.take_take]; rfl
  rw [this, hr, triC, List.take_append_of_le_length (by show 9 ≤ 9; omega), List.take_of_length_le (by show 9 ≤ 9; omega)]
theorem tris_mask (l : List TriS) (h : ∀ t ∈ l, t.ok) (k : Nat) (t : TriS) (ht : l[k]? = some t) : (trisC l)[k * 19 + 18]? = some (.int .u8 (bvi t.mask)) := by
  have hg := flat_get l (fun t ht => triC_length t (h t ht)) k 18 t ht (by omega)
  have ho := (h t (List.mem_of_getElem? ht)).1
  rw [show trisC l = l.flatMap triC from rfl, hg, triC, List.getElem?_append_right (by show 9 ≤ 18; omega)]
  show (t.rest ++ _)[18 - 9]? = _
  rw [List.getElem?_append_right (by omega), ho]
  rfl
def swC (n : Nat) (v : Value) : Array Value := #[.int .i64 (n : Int), .bool true, v]
def swA (n q : Nat) : SA := SA.l [SV.c (.int .i64 (n : Int)), SV.c (.bool true), SV.v q]
def swK (l : List TriS) : World → Value → Prop := ownK 48 19 l.length (trisC l)
def meetM (o d : P3) (mask : BitVec 8) (skip : Int) (k : Nat) (t : TriS) : M4 × Bool := ((hitM o d t.p0 t.p1 t.p2).1, (hitM o d t.p0 t.p1 t.p2).2 && ((t.mask &&& mask != BitVec.ofInt 8 0) && decide ((k : Int) ≠ skip)))
attribute [local irreducible] Calls Walk1 WalkTo Tri EndA
theorem tick_any (n : Nat) (hn : n < 1000000000) (v : Value) (w : World) (b : Nat) (hB : Blk w b (swC n v) 94) :
    Calls Try.prog 66 #[.pointer (some ⟨b, 0, none⟩)] w (RetP w b 94 (swC (n + 1) v) (.tuple #[])) := by
  refine calls_triP (b := b) (94) (SA.l [SV.c (.int .i64 (n : Int)), SV.c (.bool true), SV.c v]) Try.func66 rfl Try.ntmps66 rfl rfl (hB) (fun _ => rfl) ?_
  repeat (first | (show Walk1 _ _ _ (_ :: _) _ _; first | (show HW1 (.move _); refine wz1 ?_) | (show HW1 (.binOp .add _ _ _ _); refine wz10 ?_) | (show HW1 (.load _ _); refine wz3 ?_) | (show HW1 (.store _ _ _); refine wz50 ?_) | (show HW1 (.nilCheck _); refine wz29 ?_) | (show HW1 (.fieldAddr _ _ _); refine wz4 ?_)) | refine go1 ?_ | refine end_block_other rfl ?_ | refine end_scope (fun _ h => by cases h) ?_ | (refine walk_endD ?_ ?_; (· kernel_rfl)) | refine tri_yesA rfl ?_ | refine tri_noA rfl ?_ | refine tri_trueA rfl ?_ | refine tri_falseA rfl ?_)
  refine end_normal (.c (.tuple #[])) (res_none rfl) ?_
  exact fin_obj rfl rfl (fun _ => rfl) (fun _ => rfl)
theorem swNone_any (n : Nat) (v : Value) (w : World) (b : Nat) (hB : Blk w b (swC n v) 94) : Calls Try.prog 45 #[.pointer (some ⟨b, 0, none⟩)] w (RetP w b 94 (swC n v) (.bool false)) := by
  refine calls_triP (b := b) (94) (SA.l [SV.c (.int .i64 (n : Int)), SV.c (.bool true), SV.c v]) Try.func45 rfl Try.ntmps45 rfl rfl (hB) (fun _ => rfl) ?_
  repeat (first | (show Walk1 _ _ _ (_ :: _) _ _; first | (show Walk1 _ _ _ (⟨_, _, _, _, _, some _⟩ :: _) _ _; refine zy1 ?_) | (show HW1 (.move _); refine wz1 ?_) | (show HW1 (.assign _); refine wz2 ?_) | (show HW1 (.binOp .eql _ _ _ _); refine wz76 ?_) | (show HW1 (.pick _ _ _); refine wz7 ?_) | (show HW1 (.unOp _ _ _); refine wz19 ?_) | (show HW1 (.load _ _); refine wz3 ?_) | (show HW1 (.nilCheck _); refine wz29 ?_) | (show HW1 (.fieldAddr _ _ _); refine wz4 ?_)) | refine go1 ?_ | refine end_block_other rfl ?_ | refine end_scope (fun _ h => by cases h) ?_ | (refine walk_endD ?_ ?_; (· kernel_rfl)) | refine tri_yesA rfl ?_ | refine tri_noA rfl ?_ | refine tri_trueA rfl ?_ | refine tri_falseA rfl ?_)
  refine end_ret (.c (.bool false)) (res_tmp rfl rfl) ?_
  exact fin_obj rfl rfl (fun _ => rfl) (fun _ => rfl)
theorem swSteps_any (n : Nat) (v : Value) (w : World) (b : Nat) (hB : Blk w b (swC n v) 94) : Calls Try.prog 43 #[.pointer (some ⟨b, 0, none⟩)] w (RetP w b 94 (swC n v) (.int .i64 (n : Int))) := by
  have cn := fun w b hB => swNone_any n v w b hB
  refine calls_triP (b := b) (94) (SA.l [SV.c (.int .i64 (n : Int)), SV.c (.bool true), SV.c v]) Try.func43 rfl Try.ntmps43 rfl rfl (hB) (fun _ => rfl) ?_
  repeat (first | (show Walk1 _ _ _ (_ :: _) _ _; first | (show HW1 (.move _); refine wz1 ?_) | (show HW1 (.assign _); first | refine wz13 ?_ | refine wz2 ?_) | (show HW1 (.load _ _); refine wz3 ?_) | (show HW1 (.nilCheck _); refine wz29 ?_) | (show HW1 (.fieldAddr _ _ _); refine wz4 ?_) | (show HW1 (.call ⟨.value (.func 45), _, _⟩); ((first | refine walk1_callPE (SA.l [SV.c (.int .i64 (n : Int)), SV.c (.bool true), SV.c v]) rfl rfl rfl rfl evq rfl rfl rfl ?_ | refine walk1_callPE0 (SA.l [SV.c (.int .i64 (n : Int)), SV.c (.bool true), SV.c v]) rfl rfl rfl evq rfl rfl rfl ?_); refine ⟨_, _, callPE_0 rfl (fun e w h => cn w _ h), ?_⟩))) | refine go1 ?_ | refine end_block_other rfl ?_ | refine end_scope (fun _ h => by cases h) ?_ | (refine walk_endD ?_ ?_; (· kernel_rfl)) | refine tri_yesA rfl ?_ | refine tri_noA rfl ?_ | refine tri_trueA rfl ?_ | refine tri_falseA rfl ?_)
  refine end_ret (.c (.int .i64 (n : Int))) (res_tmp rfl rfl) ?_
  exact fin_obj rfl rfl (fun _ => rfl) (fun _ => rfl)
theorem meets_any (n : Nat) (l : List TriS) (hok : ∀ t ∈ l, t.ok) (o d : P3) (mask : BitVec 8) (skip : Int) (k : Nat) (t : TriS) (ht : l[k]? = some t) (hn : n < 1000000000) (w : World) (b : Nat) (v : Value) (hB : Blk w b (swC n v) 94) (hK : swK l w v) (hne : v.ownBlock ≠ some b) :
    Calls Try.prog 46 #[.pointer (some ⟨b, 0, none⟩), .agg o.c, .agg d.c, .int .u8 (bvi mask), .int .i64 skip, .int .i64 (k : Int)] w (RetPL w b v.ownBlock 94 (swC (n + 1)) (swK l) (.tuple #[.agg (meetM o d mask skip k t).1.c, .bool (meetM o d mask skip k t).2])) := by
  have ct := fun v w b hB => tick_any n hn v w b hB
  have cH := fun w => hitT_any o d t.p0 t.p1 t.p2 w
  have hP := tris_P l hok k t ht
  have hM := tris_mask l hok k t ht
  have hll := tris_len l hok
  have hkl : k < l.length := (List.getElem?_eq_some_iff.1 ht).1
  have hos : o.c.size = 3 := rfl
  have hds : d.c.size = 3 := rfl
  unfold meetM swK at *
  have hms : ∀ m : M4, m.c.size = 4 := fun _ => rfl
  have hmo : ∀ m : M4, m.c.all (·.oneCell') = true := fun m => by simp [M4.c]; exact ⟨rfl, rfl, rfl, rfl⟩
  generalize hitM o d t.p0 t.p1 t.p2 = hm at *
  obtain ⟨m, hb⟩ := hm
  simp only at cH ⊢
  have hms1 := hms m
  have hmo1 := hmo m
  clear hms hmo ht
  generalize m.c = MC at *
  rw [show (P9 t.p0 t.p1 t.p2) = (P9 t.p0 t.p1 t.p2).toList.toArray from rfl] at cH
  generalize (P9 t.p0 t.p1 t.p2).toList = PL at *
  generalize o.c = OC at *
  generalize d.c = DC at *
  generalize t.mask = TM at *
  generalize trisC l = XS at *
  rw [show k * 19 = 0 + k * 19 + 0 by omega] at hP
  rw [show k * 19 = 0 + k * 19 by omega] at hM
  generalize hq : (TM &&& mask != BitVec.ofInt 8 0) = Q at *
  cases hb <;> cases Q
  all_goals
    refine calls_triL (b := b) (94) (swA n 1002) Try.func46 rfl Try.ntmps46 rfl rfl (hB) (fun _ => rfl) isOwn_own hK hne ?_
    simp only [swA]
    repeat (first | (show Walk1 _ _ _ (_ :: _) _ _; first | (show HW1 (.move _); refine wz1 ?_) | (show HW1 (.assign _); refine wz2 ?_) | (show HW1 (.alloc _); refine wz6 ?_) | (show HW1 (.nilCheck _); refine wz29 ?_) | (show HW1 (.box _ _); refine wz11 ?_) | (show HW1 (.fieldAddr _ _ _); refine wz4 ?_) | (show HW1 (.call ⟨.value (.func 66), _, _⟩); ((first | refine walk1_callPE (SA.l [SV.c (.int .i64 ((n + 1 : Nat) : Int)), SV.c (.bool true), SV.v 1002]) rfl rfl rfl rfl evq rfl rfl rfl ?_ | refine walk1_callPE0 (SA.l [SV.c (.int .i64 ((n + 1 : Nat) : Int)), SV.c (.bool true), SV.v 1002]) rfl rfl rfl evq rfl rfl rfl ?_); refine ⟨_, _, callPE_0 rfl (fun e w h => ct _ w _ h), ?_⟩))) | (show WalkTo _ _ _ _ (_ :: _) _ _ _; first | (show WalkTo _ _ _ _ (⟨_, _, _, _, _, some _⟩ :: _) _ _ _; first | refine zy2 ?_ | refine zn2 ?_) | (show HW2 (.move _); refine wz20 ?_) | (show HW2 (.assign _); refine wz17 ?_) | (show HW2 (.binOp .neq _ _ _ _); first | refine walk_t (op_neB rfl rfl rfl evb evb) ?_ | refine wz135 ?_) | (show HW2 (.binOp .and _ _ _ _); refine walk_t (op_andB rfl rfl rfl evb evb) ?_) | (show HW2 (.pick _ _ _); first | refine wz90 ?_ | refine wz91 ?_) | (show HW2 (.indexAddr _ _ _); refine walk_t (op_idxV rfl rfl rfl rfl rfl evk rfl rfl (by first | omega | decide) rfl) ?_) | (show HW2 (.load _ _); first | refine wz24 ?_ | refine wz110 ?_ | refine wz22 ?_ | refine walk_t (op_loadsQ rfl rfl rfl rfl rfl rfl rfl rfl (by decide) (by first | omega | decide) (by with_reducible assumption)) ?_) | (show HW2 (.store _ _ _); refine wz36 ?_) | (show HW2 (.alloc _); refine wz43 ?_) | (show HW2 (.nilCheck _); refine wz78 ?_) | (show HW2 (.fieldAddr _ _ _); first | refine wz49 ?_ | refine walk_t (op_fldV rfl rfl rfl rfl rfl (by omega) rfl rfl rfl) ?_) | (show HW2 (.extract _ _); first | refine wz60 ?_ | refine wz59 ?_) | (show HW2 (.call ⟨.value (.func 13), _, _⟩); ((first | refine cwalk1 13 ?_ | refine cwalk0 13 ?_); refine ⟨_, fun e w => cH w, ?_⟩))) | refine go1 ?_ | refine end_block_other rfl ?_ | refine end_scope (fun _ h => by cases h) ?_ | (refine walk_endD ?_ ?_; (· kernel_rfl)) | refine tri_yesA rfl ?_ | refine tri_noA rfl ?_ | refine tri_trueA rfl ?_ | refine tri_falseA rfl ?_)
    first
    | (refine end_ret (.c (.tuple #[.agg MC, .bool false])) (res_cellT rfl rfl rfl rfl rfl rfl rfl hms1) ?_
       exact fin_objL rfl rfl rfl isOwn_own rfl (fun _ => rfl) (fun _ => rfl))
    | (refine end_ret (.c (.tuple #[.agg MC, .bool (decide ((k : Int) ≠ skip))])) (res_cellT rfl rfl rfl rfl rfl rfl rfl hms1) ?_
       exact fin_objL rfl rfl rfl isOwn_own rfl (fun _ => rfl) (fun _ => rfl))
    | (refine end_ret (.c (.tuple #[.agg MC, .bool false])) (res_cellT rfl rfl rfl (by show _ = some (SV.c (.bool false)); rw [← hq]; rfl) rfl rfl rfl hms1) ?_
       exact fin_objL rfl rfl rfl isOwn_own rfl (fun _ => rfl) (fun _ => rfl))
end Go.Proofs.Ytcookaiakfbdiaa
namespace Go.Proofs.Ytcookaiakfbdiaa
open Go.RowKit
set_option maxRecDepth 100000
set_option maxHeartbeats 1000000
variable {C : Ctx} {ops : Array Oper} {S : St} {o : Oper}
theorem run_copy_rows {P : Program} (w : World) (dT sT ty elem : TypeId) (g dLen dCap : Nat) (a : Addr) (sLen sCap sz : Nat) (cur : Array Value) (t : TypeId) (cs : List Value)
    (hu : P.underlying dT = some (.slice elem)) (hs : (P.info? elem).map (·.size) = some sz)
    (hg : w.heap[g]? = some (.cells cur t (0, 0))) (hle : sLen ≤ dLen) (hn : cs.length = sLen * sz)
    (hsrc : ∀ j v, cs[j]? = some v → w.cell? (a.add j) = some v) (hfit : cs.length ≤ cur.size) (h1 : ∀ v ∈ cs, v.oneCell' = true) :
    (Builtin.copy_ #[dT, sT] ty #[.slice (some ⟨g, 0, none⟩) dLen dCap, .slice (some a) sLen sCap]).run P w =
      .ok (goInt sLen) (w.setRow g (cs ++ cur.toList.drop cs.length).toArray) := by
  have hl := run_firstCells_some (P := P) w sz sLen a sLen sCap cs hn hsrc
  have hst := run_storeCells_at P g 0 t cs 0 cur w hg (by simpa using hfit) h1
  cases hq : P.info? elem with
  | none => simp [hq] at hs
  | some i =>
    have hi : i.size = sz := by simpa [hq] using hs
    simp [Builtin.copy_, run_underlying hu, Builtin.lenOf, sizeOf, typeInfo, hq, hi, Nat.min_eq_left hle, hl, hst]
theorem op_copyO {dst : Option Tmp} {x y : Operand} {t sT T ty : TypeId} {pos : String} {after : Array Edge} {q len n sz : Nat} {T0 : TypeId} {xs ys : List Value} {v : Value}
    (hd : dstB dst C.nt = true) (hx : S.ev x = some (.v q)) (hr : S.res q = some (.own q T0 sz len xs)) (hy : S.ev y = some (.c v)) (hm0 : C.m = []) (hf : RdV C.w0 sz v n ys) (hu' : tabLook undT t = some (.slice T)) (hs' : tabLook sizT T = some sz) (hle : n ≤ len) (h1 : ∀ u ∈ ys, u.oneCell' = true) :
    OpG C Try.prog ops ⟨dst, .call { callee := .builtin .copy, args := #[x, y], argTypes := #[t, sT] }, ty, pos, after, none⟩ S ⟨opT x ++ opT y, [q], dw dst (.c (.int .i64 ((n : Nat) : Int))), [(q, some (.own q T0 sz len (ys ++ xs.drop (n * sz))))], []⟩ := by
  refine opG_mk rfl fun S' g1 g2 g3 e a w hS => ?_
  have hevx : a.eval x = (e q).v := hS.ev ((ev_like g1 fun _ h => List.mem_append_left _ h).trans hx)
  have hevy : a.eval y = v := hS.ev ((ev_like g1 fun _ h => List.mem_append_right _ h).trans hy)
  have hu := tabAll_look undT_ok hu'
  have hs := tabAll_look sizT_ok hs'
  have hr' := (g2 q (by simp)).trans hr
  have hok : w.ownsRow 0 T0 sz (e q).v len xs := hS.res q _ hr'
  obtain ⟨hyl, ad, c, rfl, hrr⟩ := hf
  have hmine : ∀ b, (e q).v.ownBlock = some b → C.mine b := fun b hb => hS.mine q _ hr' rfl b hb
  have hnm := Nat.mul_le_mul_right sz hle
  by_cases hn0 : n = 0
  · subst hn0
    have hy0 : ys = [] := List.eq_nil_of_length_eq_zero (by omega)
    subst hy0
    have hrun : (Builtin.copy_ #[t, sT] ty #[(e q).v, .slice ad 0 c]).run Try.prog w = .ok (goInt 0) w := by
      cases hq : Try.prog.info? T with
      | none => simp [hq] at hs
      | some i =>
        rcases hok.2 with ⟨h3, h4⟩ | ⟨g, cap, cur, h3, _⟩
        · rw [h3]
          cases ad <;> simp [Builtin.copy_, run_underlying hu, Builtin.lenOf, Builtin.firstCells, sizeOf, typeInfo, hq, loadCells, loadCellsFrom]
        · rw [h3]
          cases ad <;> simp [Builtin.copy_, run_underlying hu, Builtin.lenOf, Builtin.firstCells, sizeOf, typeInfo, hq, storeCells, loadCells, loadCellsFrom]
    have hself : ([] : List Value) ++ xs.drop (0 * sz) = xs := by simp
    rw [hself]
    have hop : (execOp a.eval ⟨dst, .call { callee := .builtin .copy, args := #[x, y], argTypes := #[t, sT] }, ty, pos, after, none⟩).run Try.prog w = .ok (.value (.int .i64 ((0 : Nat) : Int))) w := by
      simp only [execOp, resolve, invoke, builtin, Sem.run_bind, Sem.run_pure, Result.andThen_ok, List.map_toArray, List.map_cons, List.map_nil, hevx, hevy, hrun]
      rfl
    refine wp_value hop ⟨e, ?_⟩
    have hl : Holds C ⟨S'.t, (q, some (.own q T0 sz len xs)) :: S'.h⟩ e a w := by
      refine hS.like ⟨fun _ => rfl, fun k => ?_⟩
      rw [St.res_cons]
      split
      · rename_i he; subst he; exact hr'.symm
      · rfl
    exact hl.put hd (.c (.int .i64 ((0 : Nat) : Int)))
  · rcases hrr with h0 | ⟨b, o2, rfl, hrr⟩
    · exact absurd h0 hn0
    rcases hok.2 with ⟨h3, h4⟩ | ⟨g, cap, cur, hev, _, hb, hnc, hcm, hcs, htk⟩
    · omega
    have hmul := Nat.mul_le_mul_right sz hnc
    have hsrc : ∀ j u, ys[j]? = some u → w.cell? ((⟨b, o2, none⟩ : Addr).add j) = some u := fun j u hu => by
      rw [add_place]
      have hc := hrr j u hu
      have hlt := World.block_lt_of_cell? C.w0 ⟨b, o2 + j, none⟩ hc
      rw [World.cell?_of_block (hS.frame.block b hlt (by rw [hm0]; simp))]
      exact hc
    have hrun := run_copy_rows (P := Try.prog) w t sT ty T g len cap ⟨b, o2, none⟩ n c sz cur T0 ys hu hs hb hle hyl hsrc (by omega) h1
    have hg0 : (e q).v.ownBlock = some g := by rw [hev]; rfl
    have hop : (execOp a.eval ⟨dst, .call { callee := .builtin .copy, args := #[x, y], argTypes := #[t, sT] }, ty, pos, after, none⟩).run Try.prog w = .ok (.value (.int .i64 ((n : Nat) : Int))) (w.setRow g (ys ++ cur.toList.drop ys.length).toArray) := by
      simp only [execOp, resolve, invoke, builtin, Sem.run_bind, Sem.run_pure, Result.andThen_ok, List.map_toArray, List.map_cons, List.map_nil, hevx, hevy, hev, hrun]
      rfl
    have hxl : xs.length = len * sz := hok.1
    have hnew : (w.setRow g (ys ++ cur.toList.drop ys.length).toArray).ownsRow 0 T0 sz (e q).v len (ys ++ xs.drop (n * sz)) := by
      refine ⟨by rw [List.length_append, List.length_drop]; omega, .inr ⟨g, cap, _, hev, Nat.zero_le _, setRow_heap w g cur _ T0 (0, 0) hb, hnc, hcm, ?_, ?_⟩⟩
      · simp; omega
      · show (ys ++ cur.toList.drop ys.length).take (len * sz) = _
        rw [List.take_append, List.take_of_length_le (by omega), ← htk, hyl, List.drop_take]
    have hsz : (w.setRow g (ys ++ cur.toList.drop ys.length).toArray).heap.size = w.heap.size := by simp [World.setRow]
    refine wp_value hop ⟨e, ?_⟩
    have hl : Holds C ⟨S'.t, (q, some (.own q T0 sz len (ys ++ xs.drop (n * sz)))) :: S'.h⟩ e a (w.setRow g (ys ++ cur.toList.drop ys.length).toArray) := by
      refine ⟨hS.defers, hS.size, hS.tmp, fun m r h => ?_, fun m r h hw b hb => ?_, fun m k r r' h h' hne hw b hb => ?_, ⟨hS.frame.os, hS.frame.tape, hS.frame.output, by rw [hsz]; exact hS.frame.size, fun k hk hkm => ?_⟩⟩
      · rw [St.res_cons] at h
        split at h
        · cases h; exact hnew
        · rename_i hne
          refine r.loc e w _ (fun b2 hfb => setRow_other w g b2 _ fun he => ?_) (hS.res m r h)
          subst he
          exact hS.sep q m _ r hr' h hne rfl b2 hg0 hfb
      · rw [St.res_cons] at h
        split at h
        · cases h; exact hmine b hb
        · exact hS.mine m r h hw b hb
      · rw [St.res_cons] at h h'
        split at h
        · rename_i h1; cases h; subst h1
          split at h'
          · rename_i h2; exact absurd h2 hne
          · exact hS.sep q k _ r' hr' h' hne rfl b hb
        · split at h'
          · rename_i h2; cases h'; subst h2
            exact hS.sep m q r _ h hr' hne hw b hb
          · exact hS.sep m k r r' h h' hne hw b hb
      · refine (setRow_other w g k _ fun he => ?_).trans (hS.frame.block k hk hkm)
        subst he
        rcases hmine k hg0 with h | h
        · omega
        · exact hkm h
    exact hl.put hd (.c (.int .i64 ((n : Nat) : Int)))
theorem op_makeZ {t T n len by_ sz : Nat} {x y : Operand} {Z : Array Value} (ho : o.op = .makeSlice t x y) (hdn : o.dst = some n) (hg : o.guard = none) (hd : dstB o.dst C.nt = true) (hx : EvN S x len) (hy : EvN S y len) (hu' : tabLook undT t = some (.slice T)) (hs' : tabLook sizT T = some sz) (hy' : tabLook bytT T = some by_) (hz' : tabLook zerT T = some Z) (hlen : len * by_ ≤ 281474976710656 ∧ len ≤ 1099511627776) :
    OpG C Try.prog ops o S ⟨opT x ++ opT y, [], [(n, .v n)], [(n, some (.own n T sz len (madeCells Z (len * sz)).toList))], [n]⟩ := by
  refine opG_mk hg fun S' h1 h2 h3 e a w hS => ?_
  have hevx : a.eval x = .int .i64 ((len : Nat) : Int) := hS.ev ((ev_like h1 fun _ h => List.mem_append_left _ h).trans hx)
  have hevy : a.eval y = .int .i64 ((len : Nat) : Int) := hS.ev ((ev_like h1 fun _ h => List.mem_append_right _ h).trans hy)
  have hu := tabAll_look undT_ok hu'
  have hs := tabAll_look sizT_ok hs'
  have hz := tabAll_look zerT_ok hz'
  have hby := tabAll_look bytT_ok hy'
  cases hb : (Try.prog.info? T) with
  | none => simp [hb] at hz
  | some i =>
    cases hc : i.zero with
    | none => simp [hb, hc] at hz
    | some zz =>
      have hzc : zz.cells = Z := by simpa [hb, hc] using hz
      have his : i.size = sz := by simpa [hb] using hs
      have hib : i.bytes = by_ := by simpa [hb] using hby
      have hr := run_make (P := Try.prog) w t T i zz hu hb hc .i64 .i64 (len : Int) (len : Int) (by omega) (Int.le_refl _) (by rw [hib, ← Int.natCast_mul, Nat.mul_comm]; omega) (by omega)
      simp only [Int.toNat_natCast, his, hzc] at hr
      have hrun : (execOp a.eval o).run Try.prog w = .ok (.value (.slice (some ⟨w.heap.size, 0, none⟩) len len)) (w.alloc (.cells (madeCells Z (len * sz)) T)) := by
        simp only [execOp, ho, hevx, hevy, Sem.run_bind, hr, Result.andThen_ok, Sem.run_pure]
      have hown := World.ownsRow_lit (base := w.heap.size) (e := T) (size := sz) w (madeCells Z (len * sz)) len (Nat.le_refl _) (by simp only [maxLen]; omega) (by rw [size_madeCells])
      have hH := hS.ownNew (n := n) (h3 n (by simp)) ((Below.refl _ _).alloc (Nat.le_refl _) _) hown
      refine wp_value hrun ⟨e.set n ⟨0, 0, .slice (some ⟨w.heap.size, 0, none⟩) len len⟩, ?_⟩
      rw [hdn]
      have hd' : dstB (some n) C.nt = true := by rw [← hdn]; exact hd
      have := hH.put hd' (.v n)
      simp only [SV.v, Env.set_self] at this
      exact this
/-- A struct of a number, a truth value and an own slice. -/
theorem op_buildOwn {ty : TypeId} {parts : Array (Nat × Operand)} {x : Operand} {q T0 sz len : Nat} {xs : List Value} {fs : Array Field} {Z : Array Value} (ho : o.op = .build ty parts) (hp0 : parts = #[(1, .const (.bool true)), (2, x)]) (hg : o.guard = none) (hd : dstB o.dst C.nt = true) (hx : S.ev x = some (.v q)) (hr : S.res q = some (.own q T0 sz len xs)) (hu' : tabLook undT ty = some (.struct fs)) (hz' : tabLook zerT ty = some Z) (hZ : Z = #[.int .i64 0, .bool false, .slice none 0 0]) (hss : (fs.all fun f => (tabLook sizT f.type).isSome) = true)
    (h1' : (fs.map fun f => (f.offset, (tabLook sizT f.type).getD 0))[1]? = some (1, 1)) (h2' : (fs.map fun f => (f.offset, (tabLook sizT f.type).getD 0))[2]? = some (2, 1)) :
    OpG C Try.prog ops o S ⟨opT x, [q], dw o.dst (.row (.l [.c (.int .i64 0), .c (.bool true), .v q])), [], []⟩ := by
  subst hp0 hZ
  have := op_value (C := C) (P := Try.prog) (ops := ops) (S := S) hg hd [x] [q] (.row (.l [.c (.int .i64 0), .c (.bool true), .v q])) fun S' e a w hS h1 h2 => by
    have hu := tabAll_look undT_ok hu'
    have hz := tabAll_look zerT_ok hz'
    have hev : a.eval x = (e q).v := hS.ev ((h1 x (by simp)).trans hx)
    have hcl : (e q).v.cells = #[(e q).v] := own_cells (hS.res q _ ((h2 q (by simp)).trans hr))
    obtain ⟨zv, hz3, hzc⟩ : ∃ zv, (zeroValue ty).run Try.prog w = .ok zv w ∧ zv.cells = #[.int .i64 0, .bool false, .slice none 0 0] := by
      cases hb : (Try.prog.info? ty) with
      | none => simp [hb] at hz
      | some i =>
        cases hc : i.zero with
        | none => simp [hb, hc] at hz
        | some zz => exact ⟨zz, by simp [zeroValue, typeInfo, hb, hc], by simpa [hb, hc] using hz⟩
    have hall : ∀ f ∈ fs.toList, ∃ sz, tabLook sizT f.type = some sz := fun f hf => by
      have := Array.all_eq_true_iff_forall_mem.1 hss f (by simpa using hf)
      exact Option.isSome_iff_exists.1 this
    have hmap : ∀ l : List Field, (∀ f ∈ l, ∃ sz, tabLook sizT f.type = some sz) → (l.mapM fun (f : Field) => do pure (f.offset, ← sizeOf f.type)).run Try.prog w = .ok (l.map fun f => (f.offset, (tabLook sizT f.type).getD 0)) w := by
      intro l
      induction l with
      | nil => intro _; rfl
      | cons f l ih =>
        intro h
        obtain ⟨sz, hsz⟩ := h f (by simp)
        simp only [List.mapM_cons, Sem.run_bind, run_sizeT hsz w, Result.andThen_ok, Sem.run_pure, ih fun g hg => h g (by simp [hg]), List.map_cons, hsz, Option.getD_some]
    have hmapA : (fs.mapM fun (f : Field) => do pure (f.offset, ← sizeOf f.type)).run Try.prog w = .ok (fs.map fun f => (f.offset, (tabLook sizT f.type).getD 0)) w := by
      rw [Array.mapM_eq_mapM_toList]
      have e1 : (fs.toList.map fun f => (f.offset, (tabLook sizT f.type).getD 0)).toArray = fs.map fun f => (f.offset, (tabLook sizT f.type).getD 0) := by
        apply Array.ext'; simp
      simp only [map_eq_pure_bind, Sem.run_bind, hmap fs.toList hall, Result.andThen_ok, Sem.run_pure, e1]
    have hc1 : a.eval (.const (.bool true)) = .bool true := rfl
    have hfill : Instr.fill (fun i => (fs.map fun f => (f.offset, (tabLook sizT f.type).getD 0))[i]?) #[.int .i64 0, .bool false, .slice none 0 0] [(1, .bool true), (2, (e q).v)] = some #[.int .i64 0, .bool true, (e q).v] := by
      simp only [Instr.fill, h1', h2', hcl]
      rfl
    simp only [execOp, ho, Instr.build, Sem.run_bind, hz3, Result.andThen_ok, run_underlying hu w, hmapA, hzc, List.map_toArray, List.map_cons, List.map_nil, hev, hc1, hfill, Sem.run_pure]
    rfl
  simpa using this
end Go.Proofs.Ytcookaiakfbdiaa
namespace Go.Proofs.Ytcookaiakfbdiaa
open Go.RowKit
set_option maxRecDepth 100000
set_option maxHeartbeats 2000000
/-- Handed back: a new object with a slice of its own, and a value. -/
def RetNT (w : World) (T : TypeId) (cells : Value → Array Value) (K : World → Value → Prop) (u : Value) : Ending → World → Prop := fun r w' => ∃ b v', r = .returned (.tuple #[.pointer (some ⟨b, 0, none⟩), u]) ∧ RetNL w T cells K (.returned (.pointer (some ⟨b, 0, none⟩))) w' ∧ w.heap.size ≤ b ∧ Blk w' b (cells v') T ∧ K w' v' ∧ (∀ x, v'.ownBlock = some x → w.heap.size ≤ x ∧ x ≠ b) ∧ Below w.heap.size w w'
theorem fin_newT {S : St} {w0 : World} {nt n q : Nat} {T : TypeId} {A : SA} {cells : Value → Array Value} {R : Res} {K : World → Value → Prop} {u : Value} (hr : S.res n = some (.blk n T A)) (hq : S.res q = some R) (hR : IsOwn R q K) (hn : Nat.beq q n = false) (hA : ∀ e, A.den e = cells (e q).v) :
    ∀ e a w, Holds ⟨nt, w0, []⟩ S e a w → RetNT w0 T cells K u (.returned ((SV.tup [.p n 0, .c u]).den e)) w := fun e a w hS => by
  have h0 := fin_newL hr hq hR hn hA e a w hS
  have h00 := h0
  obtain ⟨b, v', h1, h2, h3, h4, h5, h6⟩ := h0
  have hb : b = (e n).b := by
    have h1' : Ending.returned (.pointer (some ⟨(e n).b, 0, none⟩)) = Ending.returned (.pointer (some ⟨b, 0, none⟩)) := h1
    injection h1' with h1'
    injection h1' with h1'
    injection h1' with h1'
    injection h1' with h1' _ _
    exact h1'.symm
  subst hb
  exact ⟨(e n).b, v', rfl, h00, h2, h3, h4, h5, h6⟩
def zPs : P3 := ⟨0, 0, 0⟩
/-- The triangle that a sweep holds where none was given. -/
def zeroT : TriS := ⟨zPs, zPs, zPs, List.replicate 9 (Value.int .i64 0), 0⟩
theorem zeroT_ok : zeroT.ok := ⟨rfl, fun u hu => by obtain ⟨_, rfl⟩ := List.mem_replicate.1 hu; rfl⟩
def zCells : Array Value := (List.replicate 18 (Value.int .i64 0) ++ [Value.int .u8 0]).toArray
theorem made_tris : ∀ room, (madeCells zCells (room * 19)).toList = trisC (List.replicate room zeroT) := by
  have hz : triC zeroT = zCells.toList := rfl
  have hzl : zCells.size = 19 := rfl
  have hl : ∀ room, (trisC (List.replicate room zeroT)).length = room * 19 := fun room => by
    rw [tris_len _ fun t ht => by obtain ⟨_, rfl⟩ := List.mem_replicate.1 ht; exact zeroT_ok, List.length_replicate]
  intro room
  refine List.ext_getElem? fun i => ?_
  by_cases hi : i < room * 19
  · have hk : (List.replicate room zeroT)[i / 19]? = some zeroT := by
      rw [List.getElem?_replicate, if_pos (by omega)]
    have hg := flat_get (List.replicate room zeroT) (f := triC) (sz := 19) (fun t ht => triC_length t (by obtain ⟨_, rfl⟩ := List.mem_replicate.1 ht; exact zeroT_ok)) (i / 19) (i % 19) zeroT hk (by omega)
    rw [show i / 19 * 19 + i % 19 = i by omega] at hg
    rw [show trisC (List.replicate room zeroT) = (List.replicate room zeroT).flatMap triC from rfl, hg, hz]
    unfold madeCells
    simp only [Array.toList_map, Array.toList_range, List.getElem?_map, List.getElem?_range hi, Option.map_some, hzl]
    have hlt : i % 19 < zCells.size := by rw [hzl]; omega
    rw [getElem!_pos zCells (i % 19) hlt]
    simp
  · rw [List.getElem?_eq_none (by simp [madeCells]; omega), List.getElem?_eq_none (by rw [hl]; omega)]
/-- The triangles of a sweep with room for n. -/
def fillT (l : List TriS) (room : Nat) : List TriS := l ++ List.replicate (room - l.length) zeroT
theorem fill_cells (l : List TriS) (hok : ∀ t ∈ l, t.ok) (room : Nat) : trisC l ++ (madeCells zCells (room * 19)).toList.drop (l.length * 19) = trisC (fillT l room) := by
  have hz : ∀ t ∈ List.replicate room zeroT, t.ok := fun t ht => by obtain ⟨_, rfl⟩ := List.mem_replicate.1 ht; exact zeroT_ok
  rw [made_tris]
  have hd : (trisC (List.replicate room zeroT)).drop (l.length * 19) = trisC (List.replicate (room - l.length) zeroT) := by
    by_cases h : l.length ≤ room
    · have h2 : List.replicate room zeroT = List.replicate l.length zeroT ++ List.replicate (room - l.length) zeroT := by
        rw [List.replicate_append_replicate]; congr 1; omega
      have h3 : (trisC (List.replicate l.length zeroT)).length = l.length * 19 := by
        rw [tris_len _ fun t ht => by obtain ⟨_, rfl⟩ := List.mem_replicate.1 ht; exact zeroT_ok, List.length_replicate]
      rw [h2, trisC, List.flatMap_append, List.drop_append_of_le_length (by show _ ≤ (trisC (List.replicate l.length zeroT)).length; omega), List.drop_eq_nil_of_le (by show (trisC (List.replicate l.length zeroT)).length ≤ _; omega)]
      rfl
    · rw [show room - l.length = 0 by omega]
      rw [List.drop_eq_nil_of_le (by rw [tris_len _ hz, List.length_replicate]; omega)]
      rfl
  rw [hd, fillT, trisC, trisC, trisC, List.flatMap_append]
theorem fill_ok (l : List TriS) (hok : ∀ t ∈ l, t.ok) (room : Nat) : ∀ t ∈ fillT l room, t.ok := fun t ht => by
  rcases List.mem_append.1 ht with h | h
  · exact hok t h
  · obtain ⟨_, rfl⟩ := List.mem_replicate.1 h; exact zeroT_ok
theorem fill_length (l : List TriS) (room : Nat) (h : l.length ≤ room) : (fillT l room).length = room := by
  simp [fillT]; omega
theorem tris_one (l : List TriS) (hok : ∀ t ∈ l, t.ok) : ∀ u ∈ trisC l, u.oneCell' = true := fun u hu => by
  obtain ⟨t, ht, hu⟩ := List.mem_flatMap.1 hu
  rw [triC, List.mem_append, List.mem_append] at hu
  rcases hu with h | h | h
  · simp [P9, P3.c] at h
    rcases h with h | h | h | h | h | h | h | h | h <;> subst h <;> rfl
  · exact (hok t ht).2 u h
  · simp at h; subst h; rfl
attribute [local irreducible] Calls Walk1 WalkTo Tri EndA
theorem swNew_any (l : List TriS) (hok : ∀ t ∈ l, t.ok) (room : Nat) (h1 : room ≤ 4096) (hn : l.length ≤ room) (w : World) (v : Value) (hv : RdV w 19 v l.length (trisC l)) : Calls Try.prog 21 #[v, .int .i64 (room : Int)] w (RetNT w 94 (swC 0) (swK (fillT l room)) (.int .i64 0)) := by
  obtain ⟨a, c, hvv⟩ : ∃ a c, v = .slice a l.length c := by obtain ⟨_, a, c, h, _⟩ := hv; exact ⟨a, c, h⟩
  subst hvv
  refine calls_tri Try.func21 rfl Try.ntmps21 rfl ?_
  have h2 : decide ((room : Int) < 0) = false := decide_eq_false (by omega)
  have h3 : decide (4096 < (room : Int)) = false := decide_eq_false (by omega)
  have h4 : decide ((room : Int) < (l.length : Int)) = false := decide_eq_false (by omega)
  have ho := tris_one l hok
  unfold swK
  rw [fill_length l room hn, ← fill_cells l hok room]
  generalize trisC l = L at *
  have hz : zCells = #[Value.int .i64 0, Value.int .i64 0, Value.int .i64 0, Value.int .i64 0, Value.int .i64 0, Value.int .i64 0, Value.int .i64 0, Value.int .i64 0, Value.int .i64 0, Value.int .i64 0, Value.int .i64 0, Value.int .i64 0, Value.int .i64 0, Value.int .i64 0, Value.int .i64 0, Value.int .i64 0, Value.int .i64 0, Value.int .i64 0, Value.int .u8 0] := rfl
  rw [hz]
  repeat (first | (show Walk1 _ _ _ (_ :: _) _ _; first | (show Walk1 _ _ _ (⟨_, _, _, _, _, some _⟩ :: _) _ _; refine zy1 ?_) | (show HW1 (.move _); refine wz1 ?_) | (show HW1 (.assign _); first | refine wz13 ?_ | refine wz2 ?_) | (show HW1 (.binOp .lss _ _ _ _); refine wz5 ?_) | (show HW1 (.binOp .gtr _ _ _ _); refine wz33 ?_) | (show HW1 (.pick _ _ _); refine wz7 ?_) | (show HW1 (.load _ _); refine wz3 ?_) | (show HW1 (.nilCheck _); refine wz29 ?_) | (show HW1 (.box _ _); refine wz11 ?_) | (show HW1 (.fieldAddr _ _ _); refine wz4 ?_) | (show HW1 (.build _ _); refine walk1_t (op_buildOwn rfl rfl rfl rfl rfl rfl rfl rfl rfl (by kernel_rfl) (by kernel_rfl) (by kernel_rfl)) ?_) | (show HW1 (.call ⟨.builtin .copy, _, _⟩); (first | refine walk1_tb (op_copyO rfl rfl rfl rfl rfl (by assumption) rfl rfl (by omega) (by assumption)) ?_ | refine walk1_b (op_copyO rfl rfl rfl rfl rfl (by assumption) rfl rfl (by omega) (by assumption)) ?_)) | (show HW1 (.makeSlice _ _ _); refine wz114 ?_) | (show HW1 (.call ⟨.builtin .len, _, _⟩); refine wz39 ?_)) | refine go1 ?_ | refine end_block_other rfl ?_ | refine end_scope (fun _ h => by cases h) ?_ | (refine walk_endD ?_ ?_; (· kernel_rfl)) | refine tri_yesA rfl ?_ | refine tri_noA rfl ?_ | refine tri_trueA rfl ?_ | refine tri_falseA rfl ?_)
  refine end_ret (.tup [.p 22 0, .c (.int .i64 0)]) (res_tmp2 rfl rfl rfl) ?_
  exact fin_newT (q := 20) (A := SA.l [SV.c (.int .i64 0), SV.c (.bool true), SV.v 20]) rfl rfl isOwn_own rfl fun _ => rfl
end Go.Proofs.Ytcookaiakfbdiaa
