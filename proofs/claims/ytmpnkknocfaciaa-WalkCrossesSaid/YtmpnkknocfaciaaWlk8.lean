/- A ray meets a box by the program just if it does by the document: walked, but for the example. No condition. -/
import Derived.Test.YtmpnkknocfaciaaWlk7
namespace Go.Proofs.Ytmpnkknocfaciaa
open Go.RowKit
set_option maxRecDepth 100000
set_option maxHeartbeats 4000000
theorem inside_iff {lo hi o d : P3} : insideA (axesP lo hi o d) ↔ ∀ k, k < 3 → gx lo k ≤ gx o k ∧ gx o k ≤ gx hi k := by
  constructor
  · intro h k hk
    have := h (axk lo hi o d k) (mem_axes.2 ⟨k, hk, rfl⟩)
    unfold axk at this
    dsimp only at this
    omega
  · intro h x hx
    obtain ⟨k, hk, rfl⟩ := mem_axes.1 hx
    have := h k hk
    unfold axk
    dsimp only
    omega
theorem all3 {Q : Nat → Prop} : (∀ k, k < 3 → Q k) ↔ Q 0 ∧ Q 1 ∧ Q 2 := by
  constructor
  · intro h
    exact ⟨h 0 (by omega), h 1 (by omega), h 2 (by omega)⟩
  · rintro ⟨h0, h1, h2⟩ k hk
    have : k = 0 ∨ k = 1 ∨ k = 2 := by omega
    rcases this with rfl | rfl | rfl <;> assumption
theorem cross_iff (lo hi o d : P3) : cross22 lo hi o d = true ↔ refT lo hi o d := by
  unfold cross22 refT
  rw [Bool.and_eq_true, Bool.and_eq_true, Bool.and_eq_true, decide_eq_true_eq, decide_eq_true_eq, spanP_iff, inside_iff, maxL_le, minL_le]
  have hb : (∀ x ∈ axesP lo hi o d, x.1 ≤ x.2.1) ↔ lo.x ≤ hi.x ∧ lo.y ≤ hi.y ∧ lo.z ≤ hi.z := by
    simp only [axesP, List.mem_cons, List.not_mem_nil, or_false, forall_eq_or_imp, forall_eq]
    omega
  rw [hb, all3 (Q := okB lo hi)]
  unfold okB
  simp only [gx, List.mem_cons, List.not_mem_nil, or_false, forall_eq_or_imp, forall_eq, if_true]
  simp only [show ¬ (1 : Nat) = 0 by decide, show ¬ (2 : Nat) = 0 by decide, show ¬ (2 : Nat) = 1 by decide, if_false]
  constructor
  · rintro ⟨h1, h2, h3, h4, h5⟩
    refine ⟨⟨⟨?_, ?_, ?_, ?_, ?_⟩, ⟨?_, ?_, ?_, ?_, ?_⟩, ?_, ?_, ?_, ?_, ?_⟩, h1, h5⟩ <;> omega
  · rintro ⟨h, h1, h5⟩
    refine ⟨h1, ?_, ?_, ?_, h5⟩ <;> omega
def twoP (lo hi : P3) : Array Value := lo.c ++ hi.c
attribute [local irreducible] Calls Walk1 WalkTo Tri EndA
theorem walkCrosses_walk (cW : ∀ w, Calls Try.prog 25 #[] w fun e w' => e = .returned (.bool true) ∧ Below w.heap.size w w') (o d lo hi : P3) (w : World) : Calls Try.prog 6 #[.agg o.c, .agg d.c, .agg (twoP lo hi)] w fun e w' => e = .returned (.bool true) ∧ Below w.heap.size w w' := by
  have c1 := fun w => crosses_any lo hi o d w
  have c2 := fun w => crossesR_any lo hi o d (cross22 lo hi o d) (cross_iff lo hi o d) w
  have hso : o.c.size = 3 := rfl
  have hsd : d.c.size = 3 := rfl
  have hsl : lo.c.size = 3 := rfl
  have hsh : hi.c.size = 3 := rfl
  unfold twoP
  generalize cross22 lo hi o d = X at *
  generalize o.c = O at *
  generalize d.c = D at *
  generalize lo.c = L at *
  generalize hi.c = H at *
  have cw := fun w => cW w
  refine calls_tri Try.func6 rfl Try.ntmps6 rfl ?_
  iterate 8 (try (first | (show Walk1 _ _ _ (_ :: _) _ _; first | (show Walk1 _ _ _ (⟨_, .assign _, _, _, _, _⟩ :: _) _ _; refine walk1_t (op_assign rfl rfl rfl rfl) ?_) | (show Walk1 _ _ _ (⟨_, .box _ _, _, _, _, _⟩ :: _) _ _; refine walk1_n (op_box rfl rfl rfl rfl rfl) (by kernel_rfl) ?_)) | refine go1 ?_ | refine end_block_other rfl ?_ | refine end_scope (fun _ h => by cases h) ?_ | (refine walk_endD ?_ ?_; (· kernel_rfl)) | refine tri_yesA rfl ?_ | refine tri_noA rfl ?_ | refine tri_trueA rfl ?_ | refine tri_falseA rfl ?_))
  refine tri_ent (ent_blkA 5 ((SA.c L).app (SA.c H)) rfl (fun _ => rfl)) ?_
  repeat (first | (show WalkTo _ _ _ _ (_ :: _) _ _ _; first | (show WalkTo _ _ _ _ (⟨_, _, _, _, _, some _⟩ :: _) _ _ _; refine walk_yes rfl rfl (by first | exact decide_eq_true (by omega) | exact decide_eq_false (by omega) | rfl | (show _ = true; with_reducible assumption) | (show _ = false; with_reducible assumption) | (simp <;> fail) | omega) ?_) | (show WalkTo _ _ _ _ (⟨_, .move _, _, _, _, _⟩ :: _) _ _ _; refine walk_t (op_move rfl rfl rfl rfl) ?_) | (show WalkTo _ _ _ _ (⟨_, .assign _, _, _, _, _⟩ :: _) _ _ _; refine walk_t (op_assign rfl rfl rfl rfl) ?_) | (show WalkTo _ _ _ _ (⟨_, .binOp .eql _ _ _ _, _, _, _, _⟩ :: _) _ _ _; refine walk_t (op_eqT rfl rfl rfl rfl rfl rfl) ?_) | (show WalkTo _ _ _ _ (⟨_, .pick _ _ _, _, _, _, _⟩ :: _) _ _ _; refine walk_t (op_pickY rfl rfl rfl rfl (by first | exact decide_eq_true (by omega) | exact decide_eq_false (by omega) | rfl | (show _ = true; with_reducible assumption) | (show _ = false; with_reducible assumption) | (simp <;> fail) | omega) rfl) ?_) | (show WalkTo _ _ _ _ (⟨_, .indexAddr _ _ _, _, _, _, _⟩ :: _) _ _ _; refine walk_t (op_idxP rfl rfl rfl rfl (by first | exact evK_const rfl | exact evK_tmp rfl) rfl rfl (by first | omega | decide) rfl) ?_) | (show WalkTo _ _ _ _ (⟨_, .load _ _, _, _, _, _⟩ :: _) _ _ _; first | refine walk_t (op_loads rfl rfl rfl rfl rfl rfl rfl rfl) ?_ | refine walk_t (op_loadsM rfl rfl rfl rfl rfl rfl rfl rfl) ?_) | (show WalkTo _ _ _ _ (⟨_, .call ⟨.value (.func 23), _, _⟩, _, _, _, _⟩ :: _) _ _ _; ((first | refine walk_call rfl rfl rfl rfl (by repeat (first | exact evs_nil | apply evs_cons rfl)) rfl ?_ | refine walk_call0 rfl rfl rfl (by repeat (first | exact evs_nil | apply evs_cons rfl)) rfl ?_); refine ⟨_, fun e w => c1 w, ?_⟩)) | (show WalkTo _ _ _ _ (⟨_, .call ⟨.value (.func 24), _, _⟩, _, _, _, _⟩ :: _) _ _ _; ((first | refine walk_call rfl rfl rfl rfl (by repeat (first | exact evs_nil | apply evs_cons rfl)) rfl ?_ | refine walk_call0 rfl rfl rfl (by repeat (first | exact evs_nil | apply evs_cons rfl)) rfl ?_); refine ⟨_, fun e w => c2 w, ?_⟩)) | (show WalkTo _ _ _ _ (⟨_, .call ⟨.value (.func 25), _, _⟩, _, _, _, _⟩ :: _) _ _ _; ((first | refine walk_call rfl rfl rfl rfl (by repeat (first | exact evs_nil | apply evs_cons rfl)) rfl ?_ | refine walk_call0 rfl rfl rfl (by repeat (first | exact evs_nil | apply evs_cons rfl)) rfl ?_); refine ⟨_, fun e w => cw w, ?_⟩))) | refine go1 ?_ | refine end_block_other rfl ?_ | refine end_scope (fun _ h => by cases h) ?_ | (refine walk_endD ?_ ?_; (· kernel_rfl)) | refine tri_yesA rfl ?_ | refine tri_noA rfl ?_ | refine tri_trueA rfl ?_ | refine tri_falseA rfl ?_)
  refine end_ret _ (res_tmp rfl rfl) ?_
  exact fin_below fun _ => congrArg Value.bool (by simp)
end Go.Proofs.Ytmpnkknocfaciaa
