/- Cameras, views, steps and records: in plain numbers. No condition. Whether a direction or a camera may be, by the program and by the document: walked. No condition. -/
import Derived.Test.YtihbiejgebmeaaaSymYD
namespace Go.Proofs.Ytihbiejgebmeaaa
open Go.RowKit
set_option maxRecDepth 100000
def dirP (p : P3) : Bool := !(p.l == [0, 0, 0]) && inP p 16384
structure CamS where
  eye : P3
  right : P3
  up : P3
  ahead : P3
  lens : Int
  focus : Int
def CamS.c (c : CamS) : Array Value := #[.int .i64 c.eye.x, .int .i64 c.eye.y, .int .i64 c.eye.z, .int .i64 c.right.x, .int .i64 c.right.y, .int .i64 c.right.z, .int .i64 c.up.x, .int .i64 c.up.y, .int .i64 c.up.z, .int .i64 c.ahead.x, .int .i64 c.ahead.y, .int .i64 c.ahead.z, .int .i64 c.lens, .int .i64 c.focus]
def sizesOk (c : CamS) (w h : Int) : Prop := 0 ≤ c.lens ∧ c.lens ≤ 1024 ∧ 1 ≤ c.focus ∧ c.focus ≤ 32768 ∧ 1 ≤ w ∧ w ≤ 64 ∧ 1 ≤ h ∧ h ≤ 64
instance (c : CamS) (w h : Int) : Decidable (sizesOk c w h) := by unfold sizesOk; infer_instance
def lensE (c : CamS) (w h : Int) : Int :=
  if inP c.eye 32768 = false then 8 else if (dirP c.right && (dirP c.up && dirP c.ahead)) = false then 2 else if sizesOk c w h then 0 else 2
structure ViewS where
  w : Int
  h : Int
  samples : Int
  depth : Int
  cls : Int
  seed : BitVec 64
  cam : CamS
  constant : Bool
def ViewS.c (v : ViewS) : Array Value := #[.int .i64 v.w, .int .i64 v.h, .int .i64 v.samples, .int .i64 v.depth, .int .i64 v.cls, .int .u64 (bvi v.seed), .int .i64 v.cam.eye.x, .int .i64 v.cam.eye.y, .int .i64 v.cam.eye.z, .int .i64 v.cam.right.x, .int .i64 v.cam.right.y, .int .i64 v.cam.right.z, .int .i64 v.cam.up.x, .int .i64 v.cam.up.y, .int .i64 v.cam.up.z, .int .i64 v.cam.ahead.x, .int .i64 v.cam.ahead.y, .int .i64 v.cam.ahead.z, .int .i64 v.cam.lens, .int .i64 v.cam.focus, .bool v.constant]
def viewOk (v : ViewS) : Prop := 1 ≤ v.samples ∧ v.samples ≤ 16 ∧ 0 ≤ v.depth ∧ v.depth ≤ 8 ∧ 0 ≤ v.cls ∧ v.cls ≤ 2
instance (v : ViewS) : Decidable (viewOk v) := by unfold viewOk; infer_instance
def viewE (v : ViewS) : Int := if lensE v.cam v.w v.h ≠ 0 then lensE v.cam v.w v.h else if viewOk v then 0 else 2
structure StepS where
  walk : Int
  texel : Int
  bounce : Int
def StepS.l (s : StepS) : List Int := [s.walk, s.texel, s.bounce]
def StepS.c (s : StepS) : Array Value := #[.int .i64 s.walk, .int .i64 s.texel, .int .i64 s.bounce]
def zS : StepS := ⟨0, 0, 0⟩
def roomV (c : Int) : Int := if c = 0 then 80 else if c = 1 then 320 else 2304
def nV (v : ViewS) : Int := v.w * v.h * v.samples * (v.depth + 1)
def costV (v : ViewS) : StepS := if viewE v ≠ 0 then zS else ⟨nV v * roomV v.cls, 4 * nV v, nV v⟩
theorem view_bounds (v : ViewS) (h : viewE v = 0) : inP v.cam.eye 32768 = true ∧ dirP v.cam.right = true ∧ dirP v.cam.up = true ∧ dirP v.cam.ahead = true ∧ sizesOk v.cam v.w v.h ∧ viewOk v := by
  unfold viewE at h
  by_cases hl : lensE v.cam v.w v.h ≠ 0
  · rw [if_pos hl] at h; exact absurd h hl
  · rw [if_neg hl] at h
    have hl2 : lensE v.cam v.w v.h = 0 := by simpa using hl
    by_cases hv : viewOk v
    · unfold lensE at hl2
      by_cases h1 : inP v.cam.eye 32768 = false
      · rw [if_pos h1] at hl2; cases hl2
      · rw [if_neg h1] at hl2
        by_cases h2 : (dirP v.cam.right && (dirP v.cam.up && dirP v.cam.ahead)) = false
        · rw [if_pos h2] at hl2; cases hl2
        · rw [if_neg h2] at hl2
          by_cases h3 : sizesOk v.cam v.w v.h
          · simp at h1 h2
            exact ⟨h1, h2.1, h2.2.1, h2.2.2, h3, hv⟩
          · rw [if_neg h3] at hl2; cases hl2
    · rw [if_neg hv] at h; cases h
theorem in_bounds {p : P3} {m : Int} (h : inP p m = true) : -m ≤ p.x ∧ p.x ≤ m ∧ -m ≤ p.y ∧ p.y ≤ m ∧ -m ≤ p.z ∧ p.z ≤ m := by
  unfold inP max3 min3 at h
  simp only [Bool.and_eq_true, decide_eq_true_eq] at h
  omega
theorem dir_bounds {p : P3} (h : dirP p = true) : -16384 ≤ p.x ∧ p.x ≤ 16384 ∧ -16384 ≤ p.y ∧ p.y ≤ 16384 ∧ -16384 ≤ p.z ∧ p.z ≤ 16384 := by
  unfold dirP at h
  rw [Bool.and_eq_true] at h
  exact in_bounds h.2
theorem nV_bounds (v : ViewS) (h : viewE v = 0) : 0 ≤ v.w * v.h ∧ v.w * v.h ≤ 4096 ∧ 0 ≤ v.w * v.h * v.samples ∧ v.w * v.h * v.samples ≤ 65536 ∧ 0 ≤ nV v ∧ nV v ≤ 589824 := by
  obtain ⟨_, _, _, _, ⟨_, _, _, _, hw1, hw2, hh1, hh2⟩, ⟨hs1, hs2, hd1, hd2, _, _⟩⟩ := view_bounds v h
  have a1 : v.w * v.h ≤ 64 * 64 := Int.mul_le_mul hw2 hh2 (by omega) (by omega)
  have a0 : 0 ≤ v.w * v.h := Int.mul_nonneg (by omega) (by omega)
  have b1 : v.w * v.h * v.samples ≤ 4096 * 16 := Int.mul_le_mul (by omega) hs2 (by omega) (by omega)
  have b0 : 0 ≤ v.w * v.h * v.samples := Int.mul_nonneg a0 (by omega)
  have c1 : v.w * v.h * v.samples * (v.depth + 1) ≤ 65536 * 9 := Int.mul_le_mul (by omega) (by omega) (by omega) (by omega)
  have c0 : 0 ≤ v.w * v.h * v.samples * (v.depth + 1) := Int.mul_nonneg b0 (by omega)
  unfold nV
  omega
end Go.Proofs.Ytihbiejgebmeaaa
namespace Go.Proofs.Ytihbiejgebmeaaa
open Go.RowKit
set_option maxRecDepth 100000
set_option maxHeartbeats 1000000
attribute [local irreducible] Calls Walk1 WalkTo Tri EndA
theorem octaMay_any (p : P3) (w : World) : Calls Try.prog 38 #[.agg p.c] w fun e w' => e = .returned (.bool (dirP p)) ∧ Below w.heap.size w w' := by
  have hr := fun w => eqPt_run p ⟨0, 0, 0⟩ w
  rw [show (⟨0, 0, 0⟩ : P3).c = #[.int .i64 0, .int .i64 0, .int .i64 0] from rfl, show (⟨0, 0, 0⟩ : P3).l = [0, 0, 0] from rfl] at hr
  unfold dirP inP
  generalize (p.l == [0, 0, 0]) = E at *
  obtain ⟨x, y, z⟩ := p
  simp only [P3.c] at *
  generalize hM : max3 x y z = M at *
  generalize hN : min3 x y z = N at *
  by_cases h1 : M ≤ 16384
  all_goals
    cases E
    all_goals
      subst hM hN
      refine calls_tri Try.func38 rfl Try.ntmps38 rfl ?_
      repeat (first | (show Walk1 _ _ _ (_ :: _) _ _; first | (show Walk1 _ _ _ (⟨_, _, _, _, _, some _⟩ :: _) _ _; first | refine walk1_yes rfl rfl (by first | exact decide_eq_true (by omega) | exact decide_eq_false (by omega) | rfl | (show _ = true; with_reducible assumption) | (show _ = false; with_reducible assumption) | (simp <;> fail) | omega) ?_ | refine walk1_no rfl rfl (by first | exact decide_eq_true (by omega) | exact decide_eq_false (by omega) | rfl | (show _ = true; with_reducible assumption) | (show _ = false; with_reducible assumption) | (simp <;> fail) | omega) rfl ?_) | (show Walk1 _ _ _ (⟨_, .move _, _, _, _, _⟩ :: _) _ _; refine walk1_t (op_move rfl rfl rfl rfl) ?_) | (show Walk1 _ _ _ (⟨_, .assign _, _, _, _, _⟩ :: _) _ _; refine walk1_t (op_assign rfl rfl rfl rfl) ?_) | (show Walk1 _ _ _ (⟨_, .binOp .leq _ _ _ _, _, _, _, _⟩ :: _) _ _; refine walk1_t (op_leI rfl rfl rfl rfl rfl) ?_) | (show Walk1 _ _ _ (⟨_, .binOp .geq _ _ _ _, _, _, _, _⟩ :: _) _ _; refine walk1_t (op_geI rfl rfl rfl rfl rfl) ?_) | (show Walk1 _ _ _ (⟨_, .binOp .neq _ _ _ _, _, _, _, _⟩ :: _) _ _; refine walk1_t (op_neR (by assumption) rfl rfl rfl rfl rfl (fun _ => rfl) (fun _ => rfl) (by kernel_rfl)) ?_) | (show Walk1 _ _ _ (⟨_, .pick _ _ _, _, _, _, _⟩ :: _) _ _; first | refine walk1_t (op_pickY rfl rfl rfl rfl (by first | exact decide_eq_true (by omega) | exact decide_eq_false (by omega) | rfl | (show _ = true; with_reducible assumption) | (show _ = false; with_reducible assumption) | (simp <;> fail) | omega) rfl) ?_ | refine walk1_t (op_pickN rfl rfl rfl rfl (by first | exact decide_eq_true (by omega) | exact decide_eq_false (by omega) | rfl | (show _ = true; with_reducible assumption) | (show _ = false; with_reducible assumption) | (simp <;> fail) | omega) rfl) ?_) | (show Walk1 _ _ _ (⟨_, .load _ _, _, _, _, _⟩ :: _) _ _; first | refine walk1_t (op_load rfl rfl rfl rfl rfl rfl rfl) ?_ | refine walk1_t (op_loads rfl rfl rfl rfl rfl rfl rfl rfl) ?_) | (show Walk1 _ _ _ (⟨_, .box _ _, _, _, _, _⟩ :: _) _ _; refine walk1_n (op_box rfl rfl rfl rfl rfl) (by kernel_rfl) ?_) | (show Walk1 _ _ _ (⟨_, .fieldAddr _ _ _, _, _, _, _⟩ :: _) _ _; refine walk1_t (op_fldT rfl rfl rfl rfl rfl rfl off_zero) ?_) | (show Walk1 _ _ _ (⟨_, .build _ _, _, _, _, _⟩ :: _) _ _; refine walk1_t (op_build0 rfl rfl rfl rfl rfl rfl) ?_) | (show Walk1 _ _ _ (⟨_, .call ⟨.builtin .min, _, _⟩, _, _, _, _⟩ :: _) _ _; refine walk1_t (op_min3I rfl rfl rfl rfl) ?_) | (show Walk1 _ _ _ (⟨_, .call ⟨.builtin .max, _, _⟩, _, _, _, _⟩ :: _) _ _; refine walk1_t (op_max3I rfl rfl rfl rfl) ?_)) | refine go1 ?_ | refine end_block_other rfl ?_ | refine end_scope (fun _ h => by cases h) ?_ | (refine walk_endD ?_ ?_; (· kernel_rfl)) | refine tri_yesA rfl ?_ | refine tri_noA rfl ?_ | refine tri_trueA rfl ?_ | refine tri_falseA rfl ?_)
      refine end_ret _ (res_tmp rfl rfl) ?_
      exact fin_below fun _ => congrArg Value.bool (by simp [h1])
theorem between_any (n lo hi : Int) (w : World) : Calls Try.prog 37 #[.int .i64 n, .int .i64 lo, .int .i64 hi] w fun e w' => e = .returned (.bool (decide (lo ≤ n) && decide (n ≤ hi))) ∧ Below w.heap.size w w' := by
  by_cases h : lo ≤ n
  · refine calls_tri Try.func37 rfl Try.ntmps37 rfl ?_
    repeat (first | (show Walk1 _ _ _ (_ :: _) _ _; first | (show Walk1 _ _ _ (⟨_, _, _, _, _, some _⟩ :: _) _ _; refine walk1_yes rfl rfl (by first | exact decide_eq_true (by omega) | exact decide_eq_false (by omega) | rfl | (show _ = true; with_reducible assumption) | (show _ = false; with_reducible assumption) | (simp <;> fail) | omega) ?_) | (show Walk1 _ _ _ (⟨_, .move _, _, _, _, _⟩ :: _) _ _; refine walk1_t (op_move rfl rfl rfl rfl) ?_) | (show Walk1 _ _ _ (⟨_, .assign _, _, _, _, _⟩ :: _) _ _; refine walk1_t (op_assign rfl rfl rfl rfl) ?_) | (show Walk1 _ _ _ (⟨_, .binOp .leq _ _ _ _, _, _, _, _⟩ :: _) _ _; refine walk1_t (op_leI rfl rfl rfl rfl rfl) ?_) | (show Walk1 _ _ _ (⟨_, .binOp .geq _ _ _ _, _, _, _, _⟩ :: _) _ _; refine walk1_t (op_geI rfl rfl rfl rfl rfl) ?_) | (show Walk1 _ _ _ (⟨_, .pick _ _ _, _, _, _, _⟩ :: _) _ _; refine walk1_t (op_pickY rfl rfl rfl rfl (by first | exact decide_eq_true (by omega) | exact decide_eq_false (by omega) | rfl | (show _ = true; with_reducible assumption) | (show _ = false; with_reducible assumption) | (simp <;> fail) | omega) rfl) ?_)) | refine go1 ?_ | refine end_block_other rfl ?_ | refine end_scope (fun _ h => by cases h) ?_ | (refine walk_endD ?_ ?_; (· kernel_rfl)) | refine tri_yesA rfl ?_ | refine tri_noA rfl ?_ | refine tri_trueA rfl ?_ | refine tri_falseA rfl ?_)
    refine end_ret _ (res_tmp rfl rfl) ?_
    exact fin_below fun _ => congrArg Value.bool (by simp [h])
  · refine calls_tri Try.func37 rfl Try.ntmps37 rfl ?_
    repeat (first | (show Walk1 _ _ _ (_ :: _) _ _; first | (show Walk1 _ _ _ (⟨_, _, _, _, _, some _⟩ :: _) _ _; refine walk1_no rfl rfl (by first | exact decide_eq_true (by omega) | exact decide_eq_false (by omega) | rfl | (show _ = true; with_reducible assumption) | (show _ = false; with_reducible assumption) | (simp <;> fail) | omega) rfl ?_) | (show Walk1 _ _ _ (⟨_, .move _, _, _, _, _⟩ :: _) _ _; refine walk1_t (op_move rfl rfl rfl rfl) ?_) | (show Walk1 _ _ _ (⟨_, .assign _, _, _, _, _⟩ :: _) _ _; refine walk1_t (op_assign rfl rfl rfl rfl) ?_) | (show Walk1 _ _ _ (⟨_, .binOp .geq _ _ _ _, _, _, _, _⟩ :: _) _ _; refine walk1_t (op_geI rfl rfl rfl rfl rfl) ?_) | (show Walk1 _ _ _ (⟨_, .pick _ _ _, _, _, _, _⟩ :: _) _ _; refine walk1_t (op_pickN rfl rfl rfl rfl (by first | exact decide_eq_true (by omega) | exact decide_eq_false (by omega) | rfl | (show _ = true; with_reducible assumption) | (show _ = false; with_reducible assumption) | (simp <;> fail) | omega) rfl) ?_)) | refine go1 ?_ | refine end_block_other rfl ?_ | refine end_scope (fun _ h => by cases h) ?_ | (refine walk_endD ?_ ?_; (· kernel_rfl)) | refine tri_yesA rfl ?_ | refine tri_noA rfl ?_ | refine tri_trueA rfl ?_ | refine tri_falseA rfl ?_)
    refine end_ret _ (res_tmp rfl rfl) ?_
    exact fin_below fun _ => congrArg Value.bool (by simp [h])
end Go.Proofs.Ytihbiejgebmeaaa
