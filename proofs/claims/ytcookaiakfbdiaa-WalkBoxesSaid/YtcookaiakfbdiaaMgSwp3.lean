/- Where a ray meets a triangle: the program's: walked. No condition. A sweep: what it looks at: walked. No condition. Slices of rows made, filled from one that lay there; a struct built of an own slice. No condition. A sweep made new: walked. No condition. -/
import Derived.Test.YtcookaiakfbdiaaMgSymY
import Derived.Test.YtcookaiakfbdiaaSymX
import Derived.Laws.CopyRow
namespace Go.Proofs.Ytcookaiakfbdiaa
open Go.RowKit
set_option maxRecDepth 100000
set_option maxHeartbeats 2000000
def P9 (p0 p1 p2 : P3) : Array Value := #[.int .i64 p0.x, .int .i64 p0.y, .int .i64 p0.z, .int .i64 p1.x, .int .i64 p1.y, .int .i64 p1.z, .int .i64 p2.x, .int .i64 p2.y, .int .i64 p2.z]
theorem p9_sub (p0 p1 p2 : P3) : Sub (.c (P9 p0 p1 p2)) 0 3 (.c p0.c) ∧ Sub (.c (P9 p0 p1 p2)) 3 3 (.c p1.c) ∧ Sub (.c (P9 p0 p1 p2)) 6 3 (.c p2.c) :=
  ⟨fun _ => ⟨#[], #[.int .i64 p1.x, .int .i64 p1.y, .int .i64 p1.z, .int .i64 p2.x, .int .i64 p2.y, .int .i64 p2.z], rfl, rfl, rfl⟩,
   fun _ => ⟨p0.c, p2.c, rfl, rfl, rfl⟩,
   fun _ => ⟨#[.int .i64 p0.x, .int .i64 p0.y, .int .i64 p0.z, .int .i64 p1.x, .int .i64 p1.y, .int .i64 p1.z], #[], rfl, rfl, rfl⟩⟩
theorem p9_pts (p0 p1 p2 : P3) : (P9 p0 p1 p2).toList = ptsC [p0, p1, p2] := rfl
theorem p3_one (p : P3) : p.c.all (·.oneCell') = true := by simp [P3.c]; exact ⟨rfl, rfl, rfl⟩
attribute [local irreducible] Calls Walk1 WalkTo Tri EndA
theorem hitT_any (o d p0 p1 p2 : P3) (w : World) : Calls Try.prog 13 #[.agg o.c, .agg d.c, .agg (P9 p0 p1 p2)] w fun e w' => e = .returned (.tuple #[.agg (hitM o d p0 p1 p2).1.c, .bool (hitM o d p0 p1 p2).2]) ∧ Below w.heap.size w w' := by
  have cM := fun w => mayT_any o d w
  have cC := fun v w h => containsFunc_any v [p0, p1, p2] w h (by simp)
  have cE := fun w => subT_any p1 p0 w
  have cF := fun w => subT_any p2 p0 w
  have cA := fun w => crossT_any d (subP p2 p0) w
  have cS := fun w => subT_any o p0 w
  have cB := fun w => crossT_any (subP o p0) (subP p1 p0) w
  have d1 := fun w => dotT_any (subP p2 p0) (crossP (subP o p0) (subP p1 p0)) w
  have d2 := fun w => dotT_any (subP p1 p0) (crossP d (subP p2 p0)) w
  have d3 := fun w => dotT_any (subP o p0) (crossP d (subP p2 p0)) w
  have d4 := fun w => dotT_any d (crossP (subP o p0) (subP p1 p0)) w
  obtain ⟨s0, s1, s2⟩ := p9_sub p0 p1 p2
  have hpts := p9_pts p0 p1 p2
  have hPs : (P9 p0 p1 p2).size = 9 := rfl
  have hdl : [p0, p1, p2].length = 3 := rfl
  unfold hitM rawM
  generalize mayP o d = MY at *
  generalize [p0, p1, p2].any outF = AN at *
  rw [← hpts] at cC
  clear hpts
  generalize dotP (subP p2 p0) (crossP (subP o p0) (subP p1 p0)) = n1 at *
  generalize dotP (subP p1 p0) (crossP d (subP p2 p0)) = n2 at *
  generalize dotP (subP o p0) (crossP d (subP p2 p0)) = n3 at *
  generalize dotP d (crossP (subP o p0) (subP p1 p0)) = n4 at *
  have z1 := (show ∀ p : P3, p.c.size = 3 from fun _ => rfl)
  have y1 := p3_one
  have a1 := z1 o; have a2 := z1 d; have a3 := z1 p0; have a4 := z1 p1; have a5 := z1 p2
  have a6 := z1 (subP p1 p0); have a7 := z1 (subP p2 p0); have a8 := z1 (subP o p0); have a9 := z1 (crossP d (subP p2 p0)); have a10 := z1 (crossP (subP o p0) (subP p1 p0))
  have b6 := y1 (subP p1 p0); have b7 := y1 (subP p2 p0); have b8 := y1 (subP o p0); have b9 := y1 (crossP d (subP p2 p0)); have b10 := y1 (crossP (subP o p0) (subP p1 p0))
  clear z1 y1
  generalize (crossP (subP o p0) (subP p1 p0)).c = XB at *
  generalize (crossP d (subP p2 p0)).c = XA at *
  generalize (subP p1 p0).c = XE at *
  generalize (subP p2 p0).c = XF at *
  generalize (subP o p0).c = XS at *
  generalize P9 p0 p1 p2 = PP at *
  generalize o.c = XO at *
  generalize d.c = XD at *
  generalize p0.c = X0 at *
  generalize p1.c = X1 at *
  generalize p2.c = X2 at *
  by_cases hgo : (MY && !AN) = true
  · simp only [Bool.and_eq_true, Bool.not_eq_true'] at hgo
    obtain ⟨rfl, rfl⟩ := hgo
    rw [if_pos (by rfl)]
    refine calls_tri Try.func13 rfl Try.ntmps13 rfl ?_
    repeat (first | (show Walk1 _ _ _ (_ :: _) _ _; first | (show Walk1 _ _ _ (⟨_, _, _, _, _, some _⟩ :: _) _ _; refine zy1 ?_) | (show HW1 (.move _); refine wz1 ?_) | (show HW1 (.assign _); refine wz2 ?_) | (show HW1 (.binOp .lss _ _ _ _); refine wz12 ?_) | (show HW1 (.pick _ _ _); refine wz7 ?_) | (show HW1 (.unOp _ _ _); refine wz19 ?_) | (show HW1 (.indexAddr _ _ _); refine wz103 ?_) | (show HW1 (.load _ _); first | refine wz3 ?_ | refine wz9 ?_ | refine wz100 ?_) | (show HW1 (.store _ _ _); refine wz23 ?_) | (show HW1 (.alloc _); refine wz6 ?_) | (show HW1 (.box _ _); refine wz11 ?_) | (show HW1 (.fieldAddr _ _ _); refine wz4 ?_) | (show HW1 (.slice _ _ _ _ _); refine wz63 ?_) | (show HW1 (.call ⟨.value (.func 12), _, _⟩); ((first | refine cwalk11 12 ?_ | refine cwalk10 12 ?_); refine ⟨_, fun e w => cM w, ?_⟩)) | (show HW1 (.call ⟨.value (.func 31), _, _⟩); (refine cwalk1M 31 ?_; refine ⟨_, _, callM_1 ((rdn_row rfl hPs)) (fun e w h1 => cC _ w h1), ?_⟩)) | (show HW1 (.call ⟨.value (.func 32), _, _⟩); ((first | refine cwalk11 32 ?_ | refine cwalk10 32 ?_); refine ⟨_, fun e w => cE w, ?_⟩)) | (show HW1 (.call ⟨.value (.func 32), _, _⟩); ((first | refine cwalk11 32 ?_ | refine cwalk10 32 ?_); refine ⟨_, fun e w => cF w, ?_⟩)) | (show HW1 (.call ⟨.value (.func 32), _, _⟩); ((first | refine cwalk11 32 ?_ | refine cwalk10 32 ?_); refine ⟨_, fun e w => cS w, ?_⟩)) | (show HW1 (.call ⟨.value (.func 33), _, _⟩); ((first | refine cwalk11 33 ?_ | refine cwalk10 33 ?_); refine ⟨_, fun e w => cA w, ?_⟩)) | (show HW1 (.call ⟨.value (.func 33), _, _⟩); ((first | refine cwalk11 33 ?_ | refine cwalk10 33 ?_); refine ⟨_, fun e w => cB w, ?_⟩))) | (show WalkTo _ _ _ _ (_ :: _) _ _ _; first | (show HW2 (.indexAddr _ _ _); refine wz92 ?_) | (show HW2 (.load _ _); first | refine wz22 ?_ | refine wz131 ?_) | (show HW2 (.store _ _ _); first | refine wz36 ?_ | refine walk_b (op_storesM rfl rfl rfl rfl rfl rfl rfl) ?_) | (show HW2 (.alloc _); refine wz43 ?_) | (show HW2 (.build _ _); refine walk_t (op_buildS rfl rfl rfl rfl) ?_) | (show HW2 (.call ⟨.value (.func 32), _, _⟩); ((first | refine cwalk1 32 ?_ | refine cwalk0 32 ?_); refine ⟨_, fun e w => cE w, ?_⟩)) | (show HW2 (.call ⟨.value (.func 32), _, _⟩); ((first | refine cwalk1 32 ?_ | refine cwalk0 32 ?_); refine ⟨_, fun e w => cF w, ?_⟩)) | (show HW2 (.call ⟨.value (.func 32), _, _⟩); ((first | refine cwalk1 32 ?_ | refine cwalk0 32 ?_); refine ⟨_, fun e w => cS w, ?_⟩)) | (show HW2 (.call ⟨.value (.func 34), _, _⟩); ((first | refine cwalk1 34 ?_ | refine cwalk0 34 ?_); refine ⟨_, fun e w => d1 w, ?_⟩)) | (show HW2 (.call ⟨.value (.func 34), _, _⟩); ((first | refine cwalk1 34 ?_ | refine cwalk0 34 ?_); refine ⟨_, fun e w => d2 w, ?_⟩)) | (show HW2 (.call ⟨.value (.func 34), _, _⟩); ((first | refine cwalk1 34 ?_ | refine cwalk0 34 ?_); refine ⟨_, fun e w => d3 w, ?_⟩)) | (show HW2 (.call ⟨.value (.func 34), _, _⟩); ((first | refine cwalk1 34 ?_ | refine cwalk0 34 ?_); refine ⟨_, fun e w => d4 w, ?_⟩))) | refine go1 ?_ | refine end_block_other rfl ?_ | refine end_scope (fun _ h => by cases h) ?_ | (refine walk_endD ?_ ?_; (· kernel_rfl)) | refine tri_yesA rfl ?_ | refine tri_noA rfl ?_ | refine tri_trueA rfl ?_ | refine tri_falseA rfl ?_)
    refine tri_ent (ent_blkA 6 (.c #[.int .i64 n1, .int .i64 n2, .int .i64 n3, .int .i64 n4]) rfl (fun _ => rfl)) ?_
    refine tri_normK ⟨[(6, .p 6 0)], [(6, some (.blk 6 41 (.c (turnM ⟨n1, n2, n3, n4⟩).c)))]⟩ ?_ fun Q' hex _ => ?_
    rotate_left
    · refine tri_dec rfl (fun hneg => ?_) (fun hneg => ?_)
      · have ht : turnM ⟨n1, n2, n3, n4⟩ = ⟨nW n1, nW n2, nW n3, nW n4⟩ := by rw [turnM, if_pos (by simpa using hneg)]
        rw [ht] at hex
        repeat (first | (show Walk1 _ _ _ (_ :: _) _ _; first | (show HW1 (.unOp _ _ _); refine wz113 ?_) | (show HW1 (.load _ _); refine wz3 ?_) | (show HW1 (.store _ _ _); refine wz28 ?_) | (show HW1 (.fieldAddr _ _ _); refine wz4 ?_) | (show HW1 (.build _ _); refine wz25 ?_)) | refine go1 ?_ | refine end_block_other rfl ?_ | refine end_scope (fun _ h => by cases h) ?_ | (refine walk_endD ?_ ?_; (· kernel_rfl)) | refine tri_yesA rfl ?_ | refine tri_noA rfl ?_ | refine tri_trueA rfl ?_ | refine tri_falseA rfl ?_)
        refine end_ent (ent_blkA 6 (.c (M4.c ⟨nW n1, nW n2, nW n3, nW n4⟩)) rfl (fun _ => rfl)) ?_
        exact hex _ (ent_keep (by repeat (first | exact hasT_nil | refine hasT_cons rfl ?_ | refine hasT_eq rfl (svi (by omega)) ?_)) (by repeat (first | exact hasR_nil | refine hasR_cons rfl ?_)))
      · have ht : turnM ⟨n1, n2, n3, n4⟩ = ⟨n1, n2, n3, n4⟩ := by rw [turnM, if_neg (by simpa using hneg)]
        rw [ht] at hex
        repeat (first | refine go1 ?_ | refine end_block_other rfl ?_ | refine end_scope (fun _ h => by cases h) ?_ | (refine walk_endD ?_ ?_; (· kernel_rfl)) | refine tri_yesA rfl ?_ | refine tri_noA rfl ?_ | refine tri_trueA rfl ?_ | refine tri_falseA rfl ?_)
        refine end_ent (ent_blkA 6 (.c (M4.c ⟨n1, n2, n3, n4⟩)) rfl (fun _ => rfl)) ?_
        exact hex _ (ent_keep (by repeat (first | exact hasT_nil | refine hasT_cons rfl ?_ | refine hasT_eq rfl (svi (by omega)) ?_)) (by repeat (first | exact hasR_nil | refine hasR_cons rfl ?_)))
    generalize turnM ⟨n1, n2, n3, n4⟩ = m
    obtain ⟨n, det, u, v⟩ := m
    have hsm : (M4.c ⟨n, det, u, v⟩).size = 4 := rfl
    simp only [M4.c] at hsm ⊢
    clear cM cC cE cF cA cS cB d1 d2 d3 d4 s0 s1 s2 hPs hdl a1 a2 a3 a4 a5 a6 a7 a8 a9 a10 b6 b7 b8 b9 b10
    have hbad : ∀ hb : badM ⟨n, det, u, v⟩, endM ⟨n, det, u, v⟩ = (zM, false) := fun hb => by rw [endM, if_pos hb]
    by_cases h1 : det = 0
    · rw [hbad (.inl h1)]
      repeat (first | (show Walk1 _ _ _ (_ :: _) _ _; first | (show Walk1 _ _ _ (⟨_, _, _, _, _, some _⟩ :: _) _ _; refine zn1 ?_) | (show HW1 (.move _); refine wz1 ?_) | (show HW1 (.assign _); refine wz2 ?_) | (show HW1 (.binOp .eql _ _ _ _); refine wz18 ?_) | (show HW1 (.pick _ _ _); refine wz8 ?_) | (show HW1 (.load _ _); refine wz3 ?_) | (show HW1 (.store _ _ _); refine wz14 ?_) | (show HW1 (.fieldAddr _ _ _); refine wz4 ?_) | (show HW1 (.build _ _); refine wz32 ?_)) | refine go1 ?_ | refine end_block_other rfl ?_ | refine end_scope (fun _ h => by cases h) ?_ | (refine walk_endD ?_ ?_; (· kernel_rfl)) | refine tri_yesA rfl ?_ | refine tri_noA rfl ?_ | refine tri_trueA rfl ?_ | refine tri_falseA rfl ?_)
      refine end_ret (.c (.tuple #[.agg zM.c, .bool false])) (res_cellT rfl rfl rfl rfl rfl rfl rfl rfl) ?_
      exact fin_below fun _ => rfl
    by_cases h2 : u < 0
    · rw [hbad (.inr (.inl h2))]
      repeat (first | (show Walk1 _ _ _ (_ :: _) _ _; first | (show Walk1 _ _ _ (⟨_, _, _, _, _, some _⟩ :: _) _ _; first | refine zy1 ?_ | refine zn1 ?_) | (show HW1 (.move _); refine wz1 ?_) | (show HW1 (.assign _); refine wz2 ?_) | (show HW1 (.binOp .lss _ _ _ _); refine wz12 ?_) | (show HW1 (.binOp .eql _ _ _ _); refine wz18 ?_) | (show HW1 (.pick _ _ _); first | refine wz8 ?_ | refine wz7 ?_) | (show HW1 (.load _ _); refine wz3 ?_) | (show HW1 (.store _ _ _); refine wz14 ?_) | (show HW1 (.fieldAddr _ _ _); refine wz4 ?_) | (show HW1 (.build _ _); refine wz32 ?_)) | refine go1 ?_ | refine end_block_other rfl ?_ | refine end_scope (fun _ h => by cases h) ?_ | (refine walk_endD ?_ ?_; (· kernel_rfl)) | refine tri_yesA rfl ?_ | refine tri_noA rfl ?_ | refine tri_trueA rfl ?_ | refine tri_falseA rfl ?_)
      refine end_ret (.c (.tuple #[.agg zM.c, .bool false])) (res_cellT rfl rfl rfl rfl rfl rfl rfl rfl) ?_
      exact fin_below fun _ => rfl
    by_cases h3 : v < 0
    · rw [hbad (.inr (.inr (.inl h3)))]
      repeat (first | (show Walk1 _ _ _ (_ :: _) _ _; first | (show Walk1 _ _ _ (⟨_, _, _, _, _, some _⟩ :: _) _ _; first | refine zy1 ?_ | refine zn1 ?_) | (show HW1 (.move _); refine wz1 ?_) | (show HW1 (.assign _); refine wz2 ?_) | (show HW1 (.binOp .lss _ _ _ _); refine wz12 ?_) | (show HW1 (.binOp .eql _ _ _ _); refine wz18 ?_) | (show HW1 (.pick _ _ _); first | refine wz8 ?_ | refine wz7 ?_) | (show HW1 (.load _ _); refine wz3 ?_) | (show HW1 (.store _ _ _); refine wz14 ?_) | (show HW1 (.fieldAddr _ _ _); refine wz4 ?_) | (show HW1 (.build _ _); refine wz32 ?_)) | refine go1 ?_ | refine end_block_other rfl ?_ | refine end_scope (fun _ h => by cases h) ?_ | (refine walk_endD ?_ ?_; (· kernel_rfl)) | refine tri_yesA rfl ?_ | refine tri_noA rfl ?_ | refine tri_trueA rfl ?_ | refine tri_falseA rfl ?_)
      refine end_ret (.c (.tuple #[.agg zM.c, .bool false])) (res_cellT rfl rfl rfl rfl rfl rfl rfl rfl) ?_
      exact fin_below fun _ => rfl
    by_cases h4 : det < aW u v
    · rw [hbad (.inr (.inr (.inr (.inl h4))))]
      repeat (first | (show Walk1 _ _ _ (_ :: _) _ _; first | (show Walk1 _ _ _ (⟨_, _, _, _, _, some _⟩ :: _) _ _; first | refine zy1 ?_ | refine zn1 ?_) | (show HW1 (.move _); refine wz1 ?_) | (show HW1 (.assign _); refine wz2 ?_) | (show HW1 (.binOp .add _ _ _ _); refine wz53 ?_) | (show HW1 (.binOp .lss _ _ _ _); refine wz12 ?_) | (show HW1 (.binOp .gtr _ _ _ _); refine wz21 ?_) | (show HW1 (.binOp .eql _ _ _ _); refine wz18 ?_) | (show HW1 (.pick _ _ _); first | refine wz8 ?_ | refine wz7 ?_) | (show HW1 (.load _ _); refine wz3 ?_) | (show HW1 (.store _ _ _); refine wz14 ?_) | (show HW1 (.fieldAddr _ _ _); refine wz4 ?_) | (show HW1 (.build _ _); refine wz32 ?_)) | refine go1 ?_ | refine end_block_other rfl ?_ | refine end_scope (fun _ h => by cases h) ?_ | (refine walk_endD ?_ ?_; (· kernel_rfl)) | refine tri_yesA rfl ?_ | refine tri_noA rfl ?_ | refine tri_trueA rfl ?_ | refine tri_falseA rfl ?_)
      refine end_ret (.c (.tuple #[.agg zM.c, .bool false])) (res_cellT rfl rfl rfl rfl rfl rfl rfl rfl) ?_
      exact fin_below fun _ => rfl
    by_cases h5 : n ≤ 0
    · rw [hbad (.inr (.inr (.inr (.inr h5))))]
      repeat (first | (show Walk1 _ _ _ (_ :: _) _ _; first | (show Walk1 _ _ _ (⟨_, _, _, _, _, some _⟩ :: _) _ _; refine zy1 ?_) | (show HW1 (.move _); refine wz1 ?_) | (show HW1 (.assign _); refine wz2 ?_) | (show HW1 (.binOp .add _ _ _ _); refine wz53 ?_) | (show HW1 (.binOp .lss _ _ _ _); refine wz12 ?_) | (show HW1 (.binOp .leq _ _ _ _); refine wz75 ?_) | (show HW1 (.binOp .gtr _ _ _ _); refine wz21 ?_) | (show HW1 (.binOp .eql _ _ _ _); refine wz18 ?_) | (show HW1 (.pick _ _ _); refine wz7 ?_) | (show HW1 (.load _ _); refine wz3 ?_) | (show HW1 (.store _ _ _); refine wz14 ?_) | (show HW1 (.fieldAddr _ _ _); refine wz4 ?_) | (show HW1 (.build _ _); refine wz32 ?_)) | refine go1 ?_ | refine end_block_other rfl ?_ | refine end_scope (fun _ h => by cases h) ?_ | (refine walk_endD ?_ ?_; (· kernel_rfl)) | refine tri_yesA rfl ?_ | refine tri_noA rfl ?_ | refine tri_trueA rfl ?_ | refine tri_falseA rfl ?_)
      refine end_ret (.c (.tuple #[.agg zM.c, .bool false])) (res_cellT rfl rfl rfl rfl rfl rfl rfl rfl) ?_
      exact fin_below fun _ => rfl
    have hgood : endM ⟨n, det, u, v⟩ = (⟨n, det, u, v⟩, true) := by
      rw [endM, if_neg]
      rintro (h | h | h | h | h) <;> contradiction
    rw [hgood]
    repeat (first | (show Walk1 _ _ _ (_ :: _) _ _; first | (show Walk1 _ _ _ (⟨_, _, _, _, _, some _⟩ :: _) _ _; refine zy1 ?_) | (show HW1 (.move _); refine wz1 ?_) | (show HW1 (.assign _); refine wz2 ?_) | (show HW1 (.binOp .add _ _ _ _); refine wz53 ?_) | (show HW1 (.binOp .lss _ _ _ _); refine wz12 ?_) | (show HW1 (.binOp .leq _ _ _ _); refine wz75 ?_) | (show HW1 (.binOp .gtr _ _ _ _); refine wz21 ?_) | (show HW1 (.binOp .eql _ _ _ _); refine wz18 ?_) | (show HW1 (.pick _ _ _); refine wz7 ?_) | (show HW1 (.load _ _); first | refine wz3 ?_ | refine wz9 ?_) | (show HW1 (.store _ _ _); refine wz14 ?_) | (show HW1 (.fieldAddr _ _ _); refine wz4 ?_)) | refine go1 ?_ | refine end_block_other rfl ?_ | refine end_scope (fun _ h => by cases h) ?_ | (refine walk_endD ?_ ?_; (· kernel_rfl)) | refine tri_yesA rfl ?_ | refine tri_noA rfl ?_ | refine tri_trueA rfl ?_ | refine tri_falseA rfl ?_)
    refine end_ret (.c (.tuple #[.agg (M4.c ⟨n, det, u, v⟩), .bool true])) (res_cellT rfl rfl rfl rfl rfl rfl rfl rfl) ?_
    exact fin_below fun _ => rfl
  · rw [if_neg hgo]
    cases MY <;> cases AN
    all_goals first | exact absurd rfl hgo | skip
    all_goals
      refine calls_tri Try.func13 rfl Try.ntmps13 rfl ?_
      repeat (first | (show Walk1 _ _ _ (_ :: _) _ _; first | (show Walk1 _ _ _ (⟨_, _, _, _, _, some _⟩ :: _) _ _; first | refine zy1 ?_ | refine zn1 ?_) | (show HW1 (.move _); refine wz1 ?_) | (show HW1 (.assign _); refine wz2 ?_) | (show HW1 (.pick _ _ _); first | refine wz8 ?_ | refine wz7 ?_) | (show HW1 (.unOp _ _ _); refine wz19 ?_) | (show HW1 (.load _ _); refine wz9 ?_) | (show HW1 (.store _ _ _); refine wz14 ?_) | (show HW1 (.alloc _); refine wz6 ?_) | (show HW1 (.box _ _); refine wz11 ?_) | (show HW1 (.slice _ _ _ _ _); refine wz63 ?_) | (show HW1 (.call ⟨.value (.func 12), _, _⟩); ((first | refine cwalk11 12 ?_ | refine cwalk10 12 ?_); refine ⟨_, fun e w => cM w, ?_⟩)) | (show HW1 (.call ⟨.value (.func 31), _, _⟩); (refine cwalk1M 31 ?_; refine ⟨_, _, callM_1 ((rdn_row rfl hPs)) (fun e w h1 => cC _ w h1), ?_⟩))) | refine go1 ?_ | refine end_block_other rfl ?_ | refine end_scope (fun _ h => by cases h) ?_ | (refine walk_endD ?_ ?_; (· kernel_rfl)) | refine tri_yesA rfl ?_ | refine tri_noA rfl ?_ | refine tri_trueA rfl ?_ | refine tri_falseA rfl ?_)
      refine end_ret (.c (.tuple #[.agg zM.c, .bool false])) (res_cellT rfl rfl rfl rfl rfl rfl rfl rfl) ?_
      exact fin_below fun _ => rfl
end Go.Proofs.Ytcookaiakfbdiaa
namespace Go.Proofs.Ytcookaiakfbdiaa
open Go.RowKit
set_option maxRecDepth 100000
set_option maxHeartbeats 2000000
theorem op_loadsQ {C : Ctx} {ops : Array Oper} {S : St} {o : Oper} {ty : TypeId} {x : Operand} {n off len sz m : Nat} {T0 : TypeId} {xs B : List Value} {d : TypeDesc} (ho : o.op = .load ty x) (hg : o.guard = none) (hd : dstB o.dst C.nt = true) (hx : S.ev x = some (.vp n off)) (hr : S.res n = some (.own n T0 sz len xs)) (hu' : tabLook undT ty = some d) (hda : d.isRow = true) (hi' : tabLook sizT ty = some m) (hm : 0 < m) (hb : off + m ≤ xs.length) (hB : (xs.drop off).take m = B) :
    OpG C Try.prog ops o S ⟨opT x, [n], dw o.dst (.c (.agg B.toArray)), [], []⟩ :=
  op_loadsV ho hg hd hx hr hu' hda hi' hm hb (by rw [hB])
/-- A triangle. -/
structure TriS where
  p0 : P3
  p1 : P3
  p2 : P3
  rest : List Value
  mask : BitVec 8
def TriS.ok (t : TriS) : Prop := t.rest.length = 9 ∧ ∀ u ∈ t.rest, u.oneCell' = true
def triC (t : TriS) : List Value := (P9 t.p0 t.p1 t.p2).toList ++ (t.rest ++ [.int .u8 (bvi t.mask)])
def trisC (l : List TriS) : List Value := l.flatMap triC
theorem triC_length (t : TriS) (h : t.ok) : (triC t).length = 19 := by
  rw [triC, List.length_append, List.length_append, h.1]; rfl
theorem tris_len (l : List TriS) (h : ∀ t ∈ l, t.ok) : (trisC l).length = l.length * 19 := flat_length l fun t ht => triC_length t (h t ht)
theorem tris_P (l : List TriS) (h : ∀ t ∈ l, t.ok) (k : Nat) (t : TriS) (ht : l[k]? = some t) : ((trisC l).drop (k * 19)).take 9 = (P9 t.p0 t.p1 t.p2).toList := by
  have hr := flat_row l (fun t ht => triC_length t (h t ht)) k t ht
  have : ((trisC l).drop (k * 19)).take 9 = (((l.flatMap triC).drop (k * 19)).take 19).take 9 := by rw [List.take_take]; rfl
  rw [this, hr, triC, List.take_append_of_le_length (by show 9 ≤ 9; omega), List.take_of_length_le (by show 9 ≤ 9; omega)]
theorem tris_mask (l : List TriS) (h : ∀ t ∈ l, t.ok) (k : Nat) (t : TriS) (ht : l[k]? = some t) : (trisC l)[k * 19 + 18]? = some (.int .u8 (bvi t.mask)) := by
  have hg := flat_get l (fun t ht => triC_length t (h t ht)) k 18 t ht (by omega)
  have ho := (h t (List.mem_of_getElem? ht)).1
  rw [show trisC l = l.flatMap triC from rfl, hg, triC, List.getElem?_append_right (by show 9 ≤ 18; omega)]
  show (t.rest ++ _)[18 - 9]? = _
  rw [List.getElem?_append_right (by omega), ho]
  rfl
def meetM (o d : P3) (mask : BitVec 8) (skip : Int) (k : Nat) (t : TriS) : M4 × Bool := ((hitM o d t.p0 t.p1 t.p2).1, (hitM o d t.p0 t.p1 t.p2).2 && ((t.mask &&& mask != BitVec.ofInt 8 0) && decide ((k : Int) ≠ skip)))
attribute [local irreducible] Calls Walk1 WalkTo Tri EndA
end Go.Proofs.Ytcookaiakfbdiaa
namespace Go.Proofs.Ytcookaiakfbdiaa
open Go.RowKit
set_option maxRecDepth 100000
set_option maxHeartbeats 1000000
variable {C : Ctx} {ops : Array Oper} {S : St} {o : Oper}
end Go.Proofs.Ytcookaiakfbdiaa
namespace Go.Proofs.Ytcookaiakfbdiaa
open Go.RowKit
set_option maxRecDepth 100000
set_option maxHeartbeats 2000000
attribute [local irreducible] Calls Walk1 WalkTo Tri EndA
end Go.Proofs.Ytcookaiakfbdiaa
