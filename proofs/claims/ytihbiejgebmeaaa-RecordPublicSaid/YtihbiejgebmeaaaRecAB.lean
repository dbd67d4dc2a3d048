/- Whether a camera may be, by the program and by the document: walked. No condition. Whether a view may be, and what it costs, by the program and by the document: walked. No condition. What a view costs, by the program and by the document: walked. No condition. -/
import Derived.Test.YtihbiejgebmeaaaRec12
namespace Go.Proofs.Ytihbiejgebmeaaa
open Go.RowKit
set_option maxRecDepth 100000
set_option maxHeartbeats 4000000
theorem inP_split (p : P3) (m : Int) : inP p m = (!(decide (m < max3 p.x p.y p.z)) && !(decide (min3 p.x p.y p.z < -m))) := by
  unfold inP
  by_cases h1 : max3 p.x p.y p.z ≤ m <;> by_cases h2 : -m ≤ min3 p.x p.y p.z <;> simp [h1, h2] <;> omega
theorem sizes_split (c : CamS) (w h : Int) : (if sizesOk c w h then (0 : Int) else 2) = if ((decide (0 ≤ c.lens) && decide (c.lens ≤ 1024)) && ((decide (1 ≤ c.focus) && decide (c.focus ≤ 32768)) && ((decide (1 ≤ w) && decide (w ≤ 64)) && (decide (1 ≤ h) && decide (h ≤ 64))))) = true then 0 else 2 := by
  by_cases hs : sizesOk c w h
  · rw [if_pos hs]
    obtain ⟨a1, a2, a3, a4, a5, a6, a7, a8⟩ := hs
    simp [a1, a2, a3, a4, a5, a6, a7, a8]
  · rw [if_neg hs, if_neg]
    intro hh
    simp only [Bool.and_eq_true, decide_eq_true_eq] at hh
    exact hs ⟨hh.1.1, hh.1.2, hh.2.1.1, hh.2.1.2, hh.2.2.1.1, hh.2.2.1.2, hh.2.2.2.1, hh.2.2.2.2⟩
attribute [local irreducible] Calls Walk1 WalkTo Tri EndA
theorem lensCheck_any (c : CamS) (wd ht : Int) (w : World) : Calls Try.prog 22 #[.agg c.c, .int .i64 wd, .int .i64 ht] w fun e w' => e = .returned (.int .i64 (lensE c wd ht)) ∧ Below w.heap.size w w' := by
  have bt := fun n lo hi w => between_any n lo hi w
  have c1 := fun w => octaMay_any c.right w
  have c2 := fun w => octaMay_any c.up w
  have c3 := fun w => octaMay_any c.ahead w
  unfold lensE
  rw [sizes_split, inP_split]
  generalize hB1 : (decide (0 ≤ c.lens) && decide (c.lens ≤ 1024)) = B1
  generalize hB2 : (decide (1 ≤ c.focus) && decide (c.focus ≤ 32768)) = B2
  generalize hB3 : (decide (1 ≤ wd) && decide (wd ≤ 64)) = B3
  generalize hB4 : (decide (1 ≤ ht) && decide (ht ≤ 64)) = B4
  have b1 := fun w => bt c.lens 0 1024 w
  have b2 := fun w => bt c.focus 1 32768 w
  have b3 := fun w => bt wd 1 64 w
  have b4 := fun w => bt ht 1 64 w
  rw [hB1] at b1
  rw [hB2] at b2
  rw [hB3] at b3
  rw [hB4] at b4
  clear bt hB1 hB2 hB3 hB4
  generalize dirP c.right = R at *
  generalize dirP c.up = U at *
  generalize dirP c.ahead = A at *
  obtain ⟨⟨ex, ey, ez⟩, ⟨rx, ry, rz⟩, ⟨ux, uy, uz⟩, ⟨ax, ay, az⟩, ln, fo⟩ := c
  simp only [P3.c, CamS.c] at *
  have hc : 32768 < max3 ex ey ez ∨ (¬ 32768 < max3 ex ey ez ∧ min3 ex ey ez < -32768) ∨ (¬ 32768 < max3 ex ey ez ∧ ¬ min3 ex ey ez < -32768 ∧ R = false) ∨ (¬ 32768 < max3 ex ey ez ∧ ¬ min3 ex ey ez < -32768 ∧ R = true ∧ U = false) ∨ (¬ 32768 < max3 ex ey ez ∧ ¬ min3 ex ey ez < -32768 ∧ R = true ∧ U = true ∧ A = false) ∨ (¬ 32768 < max3 ex ey ez ∧ ¬ min3 ex ey ez < -32768 ∧ R = true ∧ U = true ∧ A = true ∧ B1 = false) ∨ (¬ 32768 < max3 ex ey ez ∧ ¬ min3 ex ey ez < -32768 ∧ R = true ∧ U = true ∧ A = true ∧ B1 = true ∧ B2 = false) ∨ (¬ 32768 < max3 ex ey ez ∧ ¬ min3 ex ey ez < -32768 ∧ R = true ∧ U = true ∧ A = true ∧ B1 = true ∧ B2 = true ∧ B3 = false) ∨ (¬ 32768 < max3 ex ey ez ∧ ¬ min3 ex ey ez < -32768 ∧ R = true ∧ U = true ∧ A = true ∧ B1 = true ∧ B2 = true ∧ B3 = true ∧ B4 = false) ∨ (¬ 32768 < max3 ex ey ez ∧ ¬ min3 ex ey ez < -32768 ∧ R = true ∧ U = true ∧ A = true ∧ B1 = true ∧ B2 = true ∧ B3 = true ∧ B4 = true) := by
    by_cases h1 : 32768 < max3 ex ey ez
    · exact .inl h1
    · by_cases h2 : min3 ex ey ez < -32768
      · exact .inr (.inl ⟨h1, h2⟩)
      · cases R <;> cases U <;> cases A <;> cases B1 <;> cases B2 <;> cases B3 <;> cases B4 <;> simp [h1, h2]
  rcases hc with h1 | ⟨h1, h2⟩ | ⟨h1, h2, rfl⟩ | ⟨h1, h2, rfl, rfl⟩ | ⟨h1, h2, rfl, rfl, rfl⟩ | ⟨h1, h2, rfl, rfl, rfl, rfl⟩ | ⟨h1, h2, rfl, rfl, rfl, rfl, rfl⟩ | ⟨h1, h2, rfl, rfl, rfl, rfl, rfl, rfl⟩ | ⟨h1, h2, rfl, rfl, rfl, rfl, rfl, rfl, rfl⟩ | ⟨h1, h2, rfl, rfl, rfl, rfl, rfl, rfl, rfl⟩
  all_goals
    refine calls_tri Try.func22 rfl Try.ntmps22 rfl ?_
    repeat (first | (show Walk1 _ _ _ (_ :: _) _ _; first | (show Walk1 _ _ _ (⟨_, _, _, _, _, some _⟩ :: _) _ _; first | refine walk1_yes rfl rfl (by first | exact decide_eq_true (by omega) | exact decide_eq_false (by omega) | rfl | (show _ = true; with_reducible assumption) | (show _ = false; with_reducible assumption) | (simp <;> fail) | omega) ?_ | refine walk1_no rfl rfl (by first | exact decide_eq_true (by omega) | exact decide_eq_false (by omega) | rfl | (show _ = true; with_reducible assumption) | (show _ = false; with_reducible assumption) | (simp <;> fail) | omega) rfl ?_) | (show Walk1 _ _ _ (⟨_, .move _, _, _, _, _⟩ :: _) _ _; refine walk1_t (op_move rfl rfl rfl rfl) ?_) | (show Walk1 _ _ _ (⟨_, .assign _, _, _, _, _⟩ :: _) _ _; first | refine walk1_t (op_assignN rfl rfl rfl rfl) ?_ | refine walk1_t (op_assign rfl rfl rfl rfl) ?_) | (show Walk1 _ _ _ (⟨_, .binOp .lss _ _ _ _, _, _, _, _⟩ :: _) _ _; refine walk1_t (op_ltI rfl rfl rfl rfl rfl) ?_) | (show Walk1 _ _ _ (⟨_, .binOp .gtr _ _ _ _, _, _, _, _⟩ :: _) _ _; refine walk1_t (op_gtI rfl rfl rfl rfl rfl) ?_) | (show Walk1 _ _ _ (⟨_, .pick _ _ _, _, _, _, _⟩ :: _) _ _; first | refine walk1_t (op_pickY rfl rfl rfl rfl (by first | exact decide_eq_true (by omega) | exact decide_eq_false (by omega) | rfl | (show _ = true; with_reducible assumption) | (show _ = false; with_reducible assumption) | (simp <;> fail) | omega) rfl) ?_ | refine walk1_t (op_pickN rfl rfl rfl rfl (by first | exact decide_eq_true (by omega) | exact decide_eq_false (by omega) | rfl | (show _ = true; with_reducible assumption) | (show _ = false; with_reducible assumption) | (simp <;> fail) | omega) rfl) ?_) | (show Walk1 _ _ _ (⟨_, .unOp _ _ _, _, _, _, _⟩ :: _) _ _; refine walk1_t (op_not rfl rfl rfl rfl) ?_) | (show Walk1 _ _ _ (⟨_, .load _ _, _, _, _, _⟩ :: _) _ _; first | refine walk1_t (op_load rfl rfl rfl rfl rfl rfl rfl) ?_ | refine walk1_t (op_loadsM rfl rfl rfl rfl rfl rfl rfl rfl) ?_) | (show Walk1 _ _ _ (⟨_, .store _ _ _, _, _, _, _⟩ :: _) _ _; refine walk1_b (op_stores rfl rfl rfl rfl rfl rfl rfl) ?_) | (show Walk1 _ _ _ (⟨_, .alloc _, _, _, _, _⟩ :: _) _ _; refine walk1_n (op_alloc rfl rfl rfl rfl rfl) (by kernel_rfl) ?_) | (show Walk1 _ _ _ (⟨_, .box _ _, _, _, _, _⟩ :: _) _ _; refine walk1_n (op_box rfl rfl rfl rfl rfl) (by kernel_rfl) ?_) | (show Walk1 _ _ _ (⟨_, .fieldAddr _ _ _, _, _, _, _⟩ :: _) _ _; refine walk1_t (op_fldT rfl rfl rfl rfl rfl rfl off_zero) ?_) | (show Walk1 _ _ _ (⟨_, .call ⟨.builtin .min, _, _⟩, _, _, _, _⟩ :: _) _ _; refine walk1_t (op_min3I rfl rfl rfl rfl) ?_) | (show Walk1 _ _ _ (⟨_, .call ⟨.builtin .max, _, _⟩, _, _, _, _⟩ :: _) _ _; refine walk1_t (op_max3I rfl rfl rfl rfl) ?_) | (show Walk1 _ _ _ (⟨_, .call ⟨.value (.func 38), _, _⟩, _, _, _, _⟩ :: _) _ _; ((first | refine walk1_call rfl rfl rfl rfl (by repeat (first | exact evs_nil | apply evs_cons rfl)) rfl ?_ | refine walk1_call0 rfl rfl rfl (by repeat (first | exact evs_nil | apply evs_cons rfl)) rfl ?_); refine ⟨_, fun e w => c1 w, ?_⟩)) | (show Walk1 _ _ _ (⟨_, .call ⟨.value (.func 38), _, _⟩, _, _, _, _⟩ :: _) _ _; ((first | refine walk1_call rfl rfl rfl rfl (by repeat (first | exact evs_nil | apply evs_cons rfl)) rfl ?_ | refine walk1_call0 rfl rfl rfl (by repeat (first | exact evs_nil | apply evs_cons rfl)) rfl ?_); refine ⟨_, fun e w => c2 w, ?_⟩)) | (show Walk1 _ _ _ (⟨_, .call ⟨.value (.func 38), _, _⟩, _, _, _, _⟩ :: _) _ _; ((first | refine walk1_call rfl rfl rfl rfl (by repeat (first | exact evs_nil | apply evs_cons rfl)) rfl ?_ | refine walk1_call0 rfl rfl rfl (by repeat (first | exact evs_nil | apply evs_cons rfl)) rfl ?_); refine ⟨_, fun e w => c3 w, ?_⟩)) | (show Walk1 _ _ _ (⟨_, .call ⟨.value (.tmp _), _, _⟩, _, _, _, _⟩ :: _) _ _; (refine walk1_callMV rfl rfl rfl rfl rfl (by repeat (first | exact evs_nil | apply evs_cons rfl)) rfl ?_; refine ⟨[], _, (fun _ e _ w _ _ => b1 w), ?_⟩)) | (show Walk1 _ _ _ (⟨_, .call ⟨.value (.tmp _), _, _⟩, _, _, _, _⟩ :: _) _ _; (refine walk1_callMV rfl rfl rfl rfl rfl (by repeat (first | exact evs_nil | apply evs_cons rfl)) rfl ?_; refine ⟨[], _, (fun _ e _ w _ _ => b2 w), ?_⟩)) | (show Walk1 _ _ _ (⟨_, .call ⟨.value (.tmp _), _, _⟩, _, _, _, _⟩ :: _) _ _; (refine walk1_callMV rfl rfl rfl rfl rfl (by repeat (first | exact evs_nil | apply evs_cons rfl)) rfl ?_; refine ⟨[], _, (fun _ e _ w _ _ => b3 w), ?_⟩)) | (show Walk1 _ _ _ (⟨_, .call ⟨.value (.tmp _), _, _⟩, _, _, _, _⟩ :: _) _ _; (refine walk1_callMV rfl rfl rfl rfl rfl (by repeat (first | exact evs_nil | apply evs_cons rfl)) rfl ?_; refine ⟨[], _, (fun _ e _ w _ _ => b4 w), ?_⟩))) | refine go1 ?_ | refine end_block_other rfl ?_ | refine end_scope (fun _ h => by cases h) ?_ | (refine walk_endD ?_ ?_; (· kernel_rfl)) | refine tri_yesA rfl ?_ | refine tri_noA rfl ?_ | refine tri_trueA rfl ?_ | refine tri_falseA rfl ?_)
    refine end_ret _ (res_tmp rfl rfl) ?_
    exact fin_below fun _ => congrArg (Value.int .i64) (by simp [*])
end Go.Proofs.Ytihbiejgebmeaaa
namespace Go.Proofs.Ytihbiejgebmeaaa
open Go.RowKit
set_option maxRecDepth 100000
set_option maxHeartbeats 4000000
theorem eqSt_run (a b : StepS) (w : World) : (Op.equalIn 10000 23 (.agg a.c) (.agg b.c)).run Try.prog w = .ok (a.l == b.l) w := by
  have hu := Try.underlying23
  have hfo : Try.prog.underlying 23 = some (.struct (Try.prog.fieldsOf 23)) := by simp [Program.fieldsOf, hu]
  rw [run_equalIn_struct w 9999 23 _ _ hfo (by kernel_rfl), show a.c = intsC a.l from rfl, show b.c = intsC b.l from rfl]
  have := eqFields_ints (P := Try.prog) (w := w) 9998 a.l b.l (Try.prog.fieldsOf 23).toList 0 (fun i f hf => by
    simp only [Program.fieldsOf, hu] at hf
    match i, hf with
    | 0, hf => simp at hf; subst hf; exact ⟨by decide, rfl, Try.underlying3⟩
    | 1, hf => simp at hf; subst hf; exact ⟨by decide, rfl, Try.underlying3⟩
    | 2, hf => simp at hf; subst hf; exact ⟨by decide, rfl, Try.underlying3⟩
    | j + 3, hf => simp at hf) (by simp only [Program.fieldsOf, hu]; rfl) (by simp only [Program.fieldsOf, hu]; rfl)
  simpa using this
attribute [local irreducible] Calls Walk1 WalkTo Tri EndA
theorem trMay_any (v : ViewS) (w : World) : Calls Try.prog 11 #[.agg v.c] w fun e w' => e = .returned (.int .i64 (viewE v)) ∧ Below w.heap.size w w' := by
  have cl := fun w => lensCheck_any v.cam v.w v.h w
  unfold viewE
  generalize lensE v.cam v.w v.h = L at *
  have hvk : viewOk v ↔ (1 ≤ v.samples ∧ v.samples ≤ 16 ∧ 0 ≤ v.depth ∧ v.depth ≤ 8 ∧ 0 ≤ v.cls ∧ v.cls ≤ 2) := Iff.rfl
  generalize hV : (if viewOk v then (0 : Int) else 2) = V at *
  obtain ⟨vw, vh, sm, dp, cs, sd, ⟨⟨ex, ey, ez⟩, ⟨rx, ry, rz⟩, ⟨ux, uy, uz⟩, ⟨ax, ay, az⟩, ln, fo⟩, cn⟩ := v
  simp only [CamS.c, ViewS.c] at *
  have hc : (L ≠ 0) ∨ (L = 0 ∧ sm < 1) ∨ (L = 0 ∧ ¬ (sm < 1) ∧ 16 < sm) ∨ (L = 0 ∧ ¬ (sm < 1) ∧ ¬ (16 < sm) ∧ dp < 0) ∨ (L = 0 ∧ ¬ (sm < 1) ∧ ¬ (16 < sm) ∧ ¬ (dp < 0) ∧ 8 < dp) ∨ (L = 0 ∧ ¬ (sm < 1) ∧ ¬ (16 < sm) ∧ ¬ (dp < 0) ∧ ¬ (8 < dp) ∧ cs < 0) ∨ (L = 0 ∧ ¬ (sm < 1) ∧ ¬ (16 < sm) ∧ ¬ (dp < 0) ∧ ¬ (8 < dp) ∧ ¬ (cs < 0) ∧ 2 < cs) ∨ (L = 0 ∧ ¬ (sm < 1) ∧ ¬ (16 < sm) ∧ ¬ (dp < 0) ∧ ¬ (8 < dp) ∧ ¬ (cs < 0) ∧ ¬ (2 < cs)) := by omega
  have hV2 : V = if (1 ≤ sm ∧ sm ≤ 16 ∧ 0 ≤ dp ∧ dp ≤ 8 ∧ 0 ≤ cs ∧ cs ≤ 2) then 0 else 2 := by
    rw [← hV]
    by_cases hv : (1 ≤ sm ∧ sm ≤ 16 ∧ 0 ≤ dp ∧ dp ≤ 8 ∧ 0 ≤ cs ∧ cs ≤ 2)
    · rw [if_pos hv, if_pos (hvk.2 hv)]
    · rw [if_neg hv, if_neg fun hh => hv (hvk.1 hh)]
  clear hV hvk
  rcases hc with hL | ⟨rfl, h1⟩ | ⟨rfl, h1, h2⟩ | ⟨rfl, h1, h2, h3⟩ | ⟨rfl, h1, h2, h3, h4⟩ | ⟨rfl, h1, h2, h3, h4, h5⟩ | ⟨rfl, h1, h2, h3, h4, h5, h6⟩ | ⟨rfl, h1, h2, h3, h4, h5, h6⟩
  all_goals
    refine calls_tri Try.func11 rfl Try.ntmps11 rfl ?_
    repeat (first | (show Walk1 _ _ _ (_ :: _) _ _; first | (show Walk1 _ _ _ (⟨_, _, _, _, _, some _⟩ :: _) _ _; first | refine walk1_yes rfl rfl (by first | exact decide_eq_true (by omega) | exact decide_eq_false (by omega) | rfl | (show _ = true; with_reducible assumption) | (show _ = false; with_reducible assumption) | (simp <;> fail) | omega) ?_ | refine walk1_no rfl rfl (by first | exact decide_eq_true (by omega) | exact decide_eq_false (by omega) | rfl | (show _ = true; with_reducible assumption) | (show _ = false; with_reducible assumption) | (simp <;> fail) | omega) rfl ?_) | (show Walk1 _ _ _ (⟨_, .move _, _, _, _, _⟩ :: _) _ _; refine walk1_t (op_move rfl rfl rfl rfl) ?_) | (show Walk1 _ _ _ (⟨_, .assign _, _, _, _, _⟩ :: _) _ _; first | refine walk1_t (op_assignN rfl rfl rfl rfl) ?_ | refine walk1_t (op_assign rfl rfl rfl rfl) ?_) | (show Walk1 _ _ _ (⟨_, .binOp .lss _ _ _ _, _, _, _, _⟩ :: _) _ _; refine walk1_t (op_ltI rfl rfl rfl rfl rfl) ?_) | (show Walk1 _ _ _ (⟨_, .binOp .gtr _ _ _ _, _, _, _, _⟩ :: _) _ _; refine walk1_t (op_gtI rfl rfl rfl rfl rfl) ?_) | (show Walk1 _ _ _ (⟨_, .binOp .neq _ _ _ _, _, _, _, _⟩ :: _) _ _; first | refine walk1_t (op_neN rfl rfl rfl (by first | exact evN_const rfl | exact rfl) (by first | exact evN_const rfl | exact rfl)) ?_ | refine walk1_t (op_neI rfl rfl rfl rfl rfl) ?_) | (show Walk1 _ _ _ (⟨_, .pick _ _ _, _, _, _, _⟩ :: _) _ _; first | refine walk1_t (op_pickY rfl rfl rfl rfl (by first | exact decide_eq_true (by omega) | exact decide_eq_false (by omega) | rfl | (show _ = true; with_reducible assumption) | (show _ = false; with_reducible assumption) | (simp <;> fail) | omega) rfl) ?_ | refine walk1_t (op_pickN rfl rfl rfl rfl (by first | exact decide_eq_true (by omega) | exact decide_eq_false (by omega) | rfl | (show _ = true; with_reducible assumption) | (show _ = false; with_reducible assumption) | (simp <;> fail) | omega) rfl) ?_) | (show Walk1 _ _ _ (⟨_, .load _ _, _, _, _, _⟩ :: _) _ _; first | refine walk1_t (op_load rfl rfl rfl rfl rfl rfl rfl) ?_ | refine walk1_t (op_loadsM rfl rfl rfl rfl rfl rfl rfl rfl) ?_) | (show Walk1 _ _ _ (⟨_, .box _ _, _, _, _, _⟩ :: _) _ _; refine walk1_n (op_box rfl rfl rfl rfl rfl) (by kernel_rfl) ?_) | (show Walk1 _ _ _ (⟨_, .fieldAddr _ _ _, _, _, _, _⟩ :: _) _ _; refine walk1_t (op_fldT rfl rfl rfl rfl rfl rfl off_zero) ?_) | (show Walk1 _ _ _ (⟨_, .call ⟨.value (.func 22), _, _⟩, _, _, _, _⟩ :: _) _ _; ((first | refine walk1_call rfl rfl rfl rfl (by repeat (first | exact evs_nil | apply evs_cons rfl)) rfl ?_ | refine walk1_call0 rfl rfl rfl (by repeat (first | exact evs_nil | apply evs_cons rfl)) rfl ?_); refine ⟨_, fun e w => cl w, ?_⟩))) | refine go1 ?_ | refine end_block_other rfl ?_ | refine end_scope (fun _ h => by cases h) ?_ | (refine walk_endD ?_ ?_; (· kernel_rfl)) | refine tri_yesA rfl ?_ | refine tri_noA rfl ?_ | refine tri_trueA rfl ?_ | refine tri_falseA rfl ?_)
    refine end_ret _ (res_tmp rfl rfl) ?_
    exact fin_below fun _ => congrArg (Value.int .i64) (by first | (rw [if_pos hL]) | (rw [if_neg (by simp), hV2, if_neg (by omega)]; try rfl) | (rw [if_neg (by simp), hV2, if_pos (by omega)]; try rfl))
end Go.Proofs.Ytihbiejgebmeaaa
namespace Go.Proofs.Ytihbiejgebmeaaa
open Go.RowKit
set_option maxRecDepth 100000
set_option maxHeartbeats 4000000
def clsT (c : Int) : Int × Int := if c = 0 then (16, 4) else if c = 1 then (64, 4) else (256, 8)
attribute [local irreducible] Calls Walk1 WalkTo Tri EndA
theorem class_any (c : Int) (h0 : 0 ≤ c) (h2 : c ≤ 2) (w : World) : Calls Try.prog 21 #[.int .i64 c] w fun e w' => e = .returned (.tuple #[.int .i64 (clsT c).1, .int .i64 (clsT c).2]) ∧ Below w.heap.size w w' := by
  have hc : c = 0 ∨ c = 1 ∨ c = 2 := by omega
  rcases hc with rfl | rfl | rfl
  all_goals
    refine calls_tri Try.func21 rfl Try.ntmps21 rfl ?_
    repeat (first | (show Walk1 _ _ _ (_ :: _) _ _; first | (show Walk1 _ _ _ (⟨_, .move _, _, _, _, _⟩ :: _) _ _; refine walk1_t (op_move rfl rfl rfl rfl) ?_) | (show Walk1 _ _ _ (⟨_, .assign _, _, _, _, _⟩ :: _) _ _; first | refine walk1_t (op_assignN rfl rfl rfl rfl) ?_ | refine walk1_t (op_assign rfl rfl rfl rfl) ?_) | (show Walk1 _ _ _ (⟨_, .binOp .eql _ _ _ _, _, _, _, _⟩ :: _) _ _; refine walk1_t (op_eqN rfl rfl rfl (by first | exact evN_const rfl | exact rfl) (by first | exact evN_const rfl | exact rfl)) ?_)) | refine go1 ?_ | refine end_block_other rfl ?_ | refine end_scope (fun _ h => by cases h) ?_ | (refine walk_endD ?_ ?_; (· kernel_rfl)) | refine tri_yesA rfl ?_ | refine tri_noA rfl ?_ | refine tri_trueA rfl ?_ | refine tri_falseA rfl ?_)
    refine end_ret _ (res_tmp2 rfl rfl rfl) ?_
    exact fin_below fun _ => rfl
theorem cost_any (v : ViewS) (w : World) : Calls Try.prog 10 #[.agg v.c] w fun e w' => e = .returned (.agg (costV v).c) ∧ Below w.heap.size w w' := by
  have cm := fun w => trMay_any v w
  have hsz : v.c.size = 21 := rfl
  unfold costV
  by_cases hE : viewE v = 0
  · obtain ⟨a1, a2, b1, b2, n1, n2⟩ := nV_bounds v hE
    obtain ⟨_, _, _, _, _, ⟨_, _, hd1, hd2, h0, h2⟩⟩ := view_bounds v hE
    have cc := fun w => class_any v.cls h0 h2 w
    rw [if_neg (by simp [hE])]
    have hx : nV v * roomV v.cls = nV v * (clsT v.cls).1 * (1 + (clsT v.cls).2) := by
      unfold roomV clsT
      split
      · omega
      · split <;> omega
    have hb : 0 ≤ (clsT v.cls).1 ∧ 0 ≤ (clsT v.cls).2 ∧ (clsT v.cls).2 ≤ 8 ∧ nV v * (clsT v.cls).1 ≤ 200000000 ∧ 0 ≤ nV v * (clsT v.cls).1 ∧ nV v * (clsT v.cls).1 * (1 + (clsT v.cls).2) ≤ 2000000000 ∧ 0 ≤ nV v * (clsT v.cls).1 * (1 + (clsT v.cls).2) := by
      unfold clsT
      split
      · simp only; omega
      · split <;> (simp only; omega)
    rw [hx]
    clear hx
    rw [hE] at cm
    have hnv : nV v = v.w * v.h * v.samples * (v.depth + 1) := rfl
    clear hE
    generalize clsT v.cls = T at *
    obtain ⟨tr, lg⟩ := T
    simp only at cc hb ⊢
    generalize nV v = N at *
    subst hnv
    obtain ⟨vw, vh, sm, dp, cs, sd, ⟨⟨ex, ey, ez⟩, ⟨rx, ry, rz⟩, ⟨ux, uy, uz⟩, ⟨ax, ay, az⟩, ln, fo⟩, cn⟩ := v
    simp only [ViewS.c, StepS.c] at *
    refine calls_tri Try.func10 rfl Try.ntmps10 rfl ?_
    repeat (first | (show Walk1 _ _ _ (_ :: _) _ _; first | (show Walk1 _ _ _ (⟨_, .move _, _, _, _, _⟩ :: _) _ _; refine walk1_t (op_move rfl rfl rfl rfl) ?_) | (show Walk1 _ _ _ (⟨_, .assign _, _, _, _, _⟩ :: _) _ _; refine walk1_t (op_assign rfl rfl rfl rfl) ?_) | (show Walk1 _ _ _ (⟨_, .binOp .add _ _ _ _, _, _, _, _⟩ :: _) _ _; refine walk1_t (op_addI rfl rfl rfl rfl rfl (by omega)) ?_) | (show Walk1 _ _ _ (⟨_, .binOp .mul _ _ _ _, _, _, _, _⟩ :: _) _ _; refine walk1_t (op_mulI rfl rfl rfl rfl rfl (by omega)) ?_) | (show Walk1 _ _ _ (⟨_, .binOp .neq _ _ _ _, _, _, _, _⟩ :: _) _ _; refine walk1_t (op_neN rfl rfl rfl (by first | exact evN_const rfl | exact rfl) (by first | exact evN_const rfl | exact rfl)) ?_) | (show Walk1 _ _ _ (⟨_, .load _ _, _, _, _, _⟩ :: _) _ _; first | refine walk1_t (op_load rfl rfl rfl rfl rfl rfl rfl) ?_ | refine walk1_t (op_loads rfl rfl rfl rfl rfl rfl rfl rfl) ?_) | (show Walk1 _ _ _ (⟨_, .store _ _ _, _, _, _, _⟩ :: _) _ _; refine walk1_b (op_storesM rfl rfl rfl rfl rfl rfl rfl) ?_) | (show Walk1 _ _ _ (⟨_, .alloc _, _, _, _, _⟩ :: _) _ _; refine walk1_n (op_alloc rfl rfl rfl rfl rfl) (by kernel_rfl) ?_) | (show Walk1 _ _ _ (⟨_, .box _ _, _, _, _, _⟩ :: _) _ _; refine walk1_n (op_box rfl rfl rfl rfl rfl) (by kernel_rfl) ?_) | (show Walk1 _ _ _ (⟨_, .fieldAddr _ _ _, _, _, _, _⟩ :: _) _ _; refine walk1_t (op_fldT rfl rfl rfl rfl rfl rfl off_zero) ?_) | (show Walk1 _ _ _ (⟨_, .extract _ _, _, _, _, _⟩ :: _) _ _; first | refine walk1_t (op_ext0 rfl rfl rfl rfl) ?_ | refine walk1_t (op_ext1 rfl rfl rfl rfl) ?_) | (show Walk1 _ _ _ (⟨_, .build _ _, _, _, _, _⟩ :: _) _ _; refine walk1_t (op_buildS rfl rfl rfl rfl) ?_) | (show Walk1 _ _ _ (⟨_, .call ⟨.value (.func 11), _, _⟩, _, _, _, _⟩ :: _) _ _; ((first | refine walk1_call rfl rfl rfl rfl (by repeat (first | exact evs_nil | apply evs_cons rfl)) rfl ?_ | refine walk1_call0 rfl rfl rfl (by repeat (first | exact evs_nil | apply evs_cons rfl)) rfl ?_); refine ⟨_, fun e w => cm w, ?_⟩)) | (show Walk1 _ _ _ (⟨_, .call ⟨.value (.func 21), _, _⟩, _, _, _, _⟩ :: _) _ _; ((first | refine walk1_call rfl rfl rfl rfl (by repeat (first | exact evs_nil | apply evs_cons rfl)) rfl ?_ | refine walk1_call0 rfl rfl rfl (by repeat (first | exact evs_nil | apply evs_cons rfl)) rfl ?_); refine ⟨_, fun e w => cc w, ?_⟩))) | refine go1 ?_ | refine end_block_other rfl ?_ | refine end_scope (fun _ h => by cases h) ?_ | (refine walk_endD ?_ ?_; (· kernel_rfl)) | refine tri_yesA rfl ?_ | refine tri_noA rfl ?_ | refine tri_trueA rfl ?_ | refine tri_falseA rfl ?_)
    refine end_ent (ent_blkA 2 (.c #[.int .i64 (vw * vh * sm * (dp + 1) * tr * (1 + lg)), .int .i64 (4 * (vw * vh * sm * (dp + 1))), .int .i64 (vw * vh * sm * (dp + 1))]) rfl (fun _ => rfl)) ?_
    refine end_ret _ (res_cells rfl rfl rfl rfl rfl rfl (sm_c rfl) ag_c) ?_
    exact fin_below fun _ => rfl
  · rw [if_pos hE]
    generalize viewE v = E at *
    have hE1 : decide (E = 0) = false := by simpa using hE
    generalize v.c = VC at *
    refine calls_tri Try.func10 rfl Try.ntmps10 rfl ?_
    repeat (first | (show Walk1 _ _ _ (_ :: _) _ _; first | (show Walk1 _ _ _ (⟨_, .binOp .neq _ _ _ _, _, _, _, _⟩ :: _) _ _; refine walk1_t (op_neI rfl rfl rfl rfl rfl) ?_) | (show Walk1 _ _ _ (⟨_, .load _ _, _, _, _, _⟩ :: _) _ _; refine walk1_t (op_loadsC rfl rfl rfl rfl rfl rfl rfl rfl (sm_c (by assumption)) ag_c) ?_) | (show Walk1 _ _ _ (⟨_, .store _ _ _, _, _, _, _⟩ :: _) _ _; refine walk1_b (op_stores rfl rfl rfl rfl rfl rfl rfl) ?_) | (show Walk1 _ _ _ (⟨_, .alloc _, _, _, _, _⟩ :: _) _ _; refine walk1_n (op_alloc rfl rfl rfl rfl rfl) (by kernel_rfl) ?_) | (show Walk1 _ _ _ (⟨_, .box _ _, _, _, _, _⟩ :: _) _ _; refine walk1_n (op_box rfl rfl rfl rfl rfl) (by kernel_rfl) ?_) | (show Walk1 _ _ _ (⟨_, .build _ _, _, _, _, _⟩ :: _) _ _; refine walk1_t (op_build0 rfl rfl rfl rfl rfl rfl) ?_) | (show Walk1 _ _ _ (⟨_, .call ⟨.value (.func 11), _, _⟩, _, _, _, _⟩ :: _) _ _; ((first | refine walk1_call rfl rfl rfl rfl (by repeat (first | exact evs_nil | apply evs_cons rfl)) rfl ?_ | refine walk1_call0 rfl rfl rfl (by repeat (first | exact evs_nil | apply evs_cons rfl)) rfl ?_); refine ⟨_, fun e w => cm w, ?_⟩))) | refine go1 ?_ | refine end_block_other rfl ?_ | refine end_scope (fun _ h => by cases h) ?_ | (refine walk_endD ?_ ?_; (· kernel_rfl)) | refine tri_yesA rfl ?_ | refine tri_noA rfl ?_ | refine tri_trueA rfl ?_ | refine tri_falseA rfl ?_)
    refine end_ret _ (res_cells rfl rfl rfl rfl rfl rfl (sm_c rfl) ag_c) ?_
    exact fin_below fun _ => rfl
end Go.Proofs.Ytihbiejgebmeaaa
