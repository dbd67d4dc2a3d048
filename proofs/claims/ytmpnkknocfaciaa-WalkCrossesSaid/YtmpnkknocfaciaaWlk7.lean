/- Whether a ray meets a box, by the document: walked. No condition. -/
import Derived.Test.YtmpnkknocfaciaaWlkDF
import Derived.Test.YtmpnkknocfaciaaSwp4
namespace Go.Proofs.Ytmpnkknocfaciaa
open Go.RowKit
set_option maxRecDepth 100000
set_option maxHeartbeats 4000000
def gx (p : P3) (k : Nat) : Int := if k = 0 then p.x else if k = 1 then p.y else p.z
def axk (lo hi o d : P3) (k : Nat) : Ax := (gx lo k - gx o k, gx hi k - gx o k, gx d k)
theorem mem_axes {lo hi o d : P3} {x : Ax} : x ∈ axesP lo hi o d ↔ ∃ k, k < 3 ∧ x = axk lo hi o d k := by
  constructor
  · intro h
    simp only [axesP, List.mem_cons, List.not_mem_nil, or_false] at h
    rcases h with rfl | rfl | rfl
    · exact ⟨0, by omega, rfl⟩
    · exact ⟨1, by omega, rfl⟩
    · exact ⟨2, by omega, rfl⟩
  · rintro ⟨k, hk, rfl⟩
    have : k = 0 ∨ k = 1 ∨ k = 2 := by omega
    rcases this with rfl | rfl | rfl <;> simp [axesP, axk, gx]
def okB (lo hi : P3) (k : Nat) : Prop := ¬ (gx lo k > 65536) ∧ ¬ (gx lo k < -65536) ∧ ¬ (gx hi k > 65536) ∧ ¬ (gx hi k < -65536) ∧ ¬ (gx lo k > gx hi k)
def refT (lo hi o d : P3) : Prop := (∀ k, k < 3 → okB lo hi k) ∧ mayP o d = true ∧ ((∀ k, k < 3 → gx lo k ≤ gx o k ∧ gx o k ≤ gx hi k) ∨ faceA (axesP lo hi o d))
theorem gx_get (p : P3) (k : Nat) (hk : k < 3) : p.c[k]? = some (.int .i64 (gx p k)) := by
  have : k = 0 ∨ k = 1 ∨ k = 2 := by omega
  rcases this with rfl | rfl | rfl <;> rfl
/-- A place of a side is where the ray comes through. -/
def goodF (lo hi o d : P3) (i : Nat) (m : Int) : Prop := wayA (axk lo hi o d i) ≠ 0 ∧ 0 ≤ sgA (axk lo hi o d i) m ∧ ∀ k, k < 3 → inT (sgA (axk lo hi o d i) m) (wayA (axk lo hi o d i)) (axk lo hi o d k)
def sideF (lo hi o : P3) (i s : Nat) : Int := if s = 0 then gx lo i - gx o i else gx hi i - gx o i
theorem face_iff {lo hi o d : P3} : faceA (axesP lo hi o d) ↔ ∃ i, i < 3 ∧ ∃ s, s < 2 ∧ goodF lo hi o d i (sideF lo hi o i s) := by
  constructor
  · rintro ⟨x, hx, m, hm, h1, h2, h3⟩
    obtain ⟨i, hi3, rfl⟩ := mem_axes.1 hx
    rcases hm with rfl | rfl
    · exact ⟨i, hi3, 0, by omega, h1, h2, fun k hk => h3 _ (mem_axes.2 ⟨k, hk, rfl⟩)⟩
    · exact ⟨i, hi3, 1, by omega, h1, h2, fun k hk => h3 _ (mem_axes.2 ⟨k, hk, rfl⟩)⟩
  · rintro ⟨i, hi3, s, hs, h1, h2, h3⟩
    refine ⟨_, mem_axes.2 ⟨i, hi3, rfl⟩, sideF lo hi o i s, ?_, h1, h2, fun y hy => ?_⟩
    · unfold sideF
      split
      · exact .inl rfl
      · exact .inr rfl
    · obtain ⟨k, hk, rfl⟩ := mem_axes.1 hy
      exact h3 k hk
theorem goodF_iff {lo hi o d : P3} {i s : Nat} {m N W : Int} (hm : m = if s = 0 then gx lo i - gx o i else gx hi i - gx o i) (hN : N = if gx d i < 0 then -m else m) (hW : W = if gx d i < 0 then -gx d i else gx d i) :
    goodF lo hi o d i (sideF lo hi o i s) ↔ W ≠ 0 ∧ 0 ≤ N ∧ ∀ k, k < 3 → gx lo k * W ≤ gx o k * W + gx d k * N ∧ gx o k * W + gx d k * N ≤ gx hi k * W := by
  have e1 : sgA (axk lo hi o d i) (sideF lo hi o i s) = N := by rw [hN, hm]; rfl
  have e2 : wayA (axk lo hi o d i) = W := by rw [hW]; rfl
  unfold goodF
  rw [e1, e2]
  refine and_congr_right fun _ => and_congr_right fun _ => forall_congr' fun k => forall_congr' fun _ => ?_
  show (gx lo k - gx o k) * W ≤ gx d k * N ∧ gx d k * N ≤ (gx hi k - gx o k) * W ↔ _
  rw [Int.sub_mul, Int.sub_mul]
  omega
theorem may_bounds {o d : P3} (h : mayP o d = true) : ∀ k, k < 3 → -65536 ≤ gx o k ∧ gx o k ≤ 65536 ∧ -131072 ≤ gx d k ∧ gx d k ≤ 131072 := by
  unfold mayP inP max3 min3 at h
  simp only [Bool.and_eq_true, decide_eq_true_eq] at h
  intro k hk
  have : k = 0 ∨ k = 1 ∨ k = 2 := by omega
  rcases this with rfl | rfl | rfl <;> simp only [gx] <;> omega
theorem small_mul {a b : Int} (ha : -262144 ≤ a ∧ a ≤ 262144) (hb : -262144 ≤ b ∧ b ≤ 262144) : -100000000000 ≤ a * b ∧ a * b ≤ 100000000000 := by
  have h1 : (a * b).natAbs ≤ 262144 * 262144 := by
    rw [Int.natAbs_mul]
    exact Nat.mul_le_mul (by omega) (by omega)
  omega
/-- The way on, walked once for all states that a test may end in. -/
theorem tri_normY {C : Ctx} {ι : Type} (S1 : ι → St) (p : ι → Prop) {S0 : St} {c : Code} {P : Program} {Q : Exit → Act → World → Prop} (hex : ∀ i, p i → EndA C (S1 i) (Q .normal)) (h : ∀ Q' : Exit → Act → World → Prop, (∀ S i, p i → Ents C S (S1 i) → EndA C S (Q' .normal)) → (∀ S, EndA C S (Q .ret) → EndA C S (Q' .ret)) → Tri C P S0 c Q') : Tri C P S0 c Q :=
  h Q (fun _ i hp hS => end_ent hS (hex i hp)) fun _ h => h
attribute [local irreducible] Calls Walk1 WalkTo Tri EndA
theorem crossesR_any (lo hi o d : P3) (R : Bool) (hR : R = true ↔ refT lo hi o d) (w : World) : Calls Try.prog 24 #[.agg lo.c, .agg hi.c, .agg o.c, .agg d.c] w fun e w' => e = .returned (.bool R) ∧ Below w.heap.size w w' := by
  have cM := fun w => mayR_any o d w
  have gA := gx_get lo
  have gB := gx_get hi
  have gO := gx_get o
  have gD := gx_get d
  have hfc := face_iff (lo := lo) (hi := hi) (o := o) (d := d)
  have hmb := may_bounds (o := o) (d := d)
  have hso : o.c.size = 3 := rfl
  have hsd : d.c.size = 3 := rfl
  have hOK : ∀ k, okB lo hi k ↔ ¬ (gx lo k > 65536) ∧ ¬ (gx lo k < -65536) ∧ ¬ (gx hi k > 65536) ∧ ¬ (gx hi k < -65536) ∧ ¬ (gx lo k > gx hi k) := fun _ => Iff.rfl
  have hGF := fun (i s : Nat) (m N W : Int) => goodF_iff (lo := lo) (hi := hi) (o := o) (d := d) (i := i) (s := s) (m := m) (N := N) (W := W)
  unfold refT at hR
  rw [hfc] at hR
  clear hfc
  generalize hLA : gx lo = A at *
  generalize hLB : gx hi = B at *
  generalize hLO : gx o = O at *
  generalize hLD : gx d = D at *
  have e0 : lo.c = #[.int .i64 lo.x, .int .i64 lo.y, .int .i64 lo.z] := rfl
  have e1 : hi.c = #[.int .i64 hi.x, .int .i64 hi.y, .int .i64 hi.z] := rfl
  have e2 : o.c = #[.int .i64 o.x, .int .i64 o.y, .int .i64 o.z] := rfl
  have e3 : d.c = #[.int .i64 d.x, .int .i64 d.y, .int .i64 d.z] := rfl
  rw [e0, e1, e2, e3]
  rw [e2, e3] at cM
  refine calls_tri Try.func24 rfl Try.ntmps24 rfl ?_
  repeat (first | (show Walk1 _ _ _ (_ :: _) _ _; first | (show Walk1 _ _ _ (⟨_, .assign _, _, _, _, _⟩ :: _) _ _; first | refine walk1_t (op_assignN rfl rfl rfl rfl) ?_ | refine walk1_t (op_assign rfl rfl rfl rfl) ?_) | (show Walk1 _ _ _ (⟨_, .load _ _, _, _, _, _⟩ :: _) _ _; refine walk1_t (op_load rfl rfl rfl rfl rfl rfl rfl) ?_) | (show Walk1 _ _ _ (⟨_, .box _ _, _, _, _, _⟩ :: _) _ _; refine walk1_n (op_box rfl rfl rfl rfl rfl) (by kernel_rfl) ?_) | (show Walk1 _ _ _ (⟨_, .fieldAddr _ _ _, _, _, _, _⟩ :: _) _ _; refine walk1_t (op_fldT rfl rfl rfl rfl rfl rfl off_zero) ?_) | (show Walk1 _ _ _ (⟨_, .buildSlice _ _ _, _, _, _, _⟩ :: _) _ _; refine walk1_n (op_bsliceL rfl (by repeat (first | exact evl1_nil | apply evl1_cons rfl)) rfl rfl rfl rfl rfl rfl rfl rfl (by decide) (by repeat (first | exact ones_nil | apply ones_own rfl | apply ones_sub rfl | apply ones_one (fun _ => rfl))) (by kernel_rfl)) (by kernel_rfl) ?_)) | refine go1 ?_ | refine end_block_other rfl ?_ | refine end_scope (fun _ h => by cases h) ?_ | (refine walk_endD ?_ ?_; (· kernel_rfl)) | refine tri_yesA rfl ?_ | refine tri_noA rfl ?_ | refine tri_trueA rfl ?_ | refine tri_falseA rfl ?_)
  refine tri_ent (ent_blkA 28 (.c lo.c) rfl (fun _ => rfl)) ?_
  refine tri_ent (ent_blkA 35 (.c hi.c) rfl (fun _ => rfl)) ?_
  refine tri_ent (ent_blkA 42 (.c o.c) rfl (fun _ => rfl)) ?_
  refine tri_ent (ent_blkA 49 (.c d.c) rfl (fun _ => rfl)) ?_
  refine tri_ent (ent_blkA 6 (.c o.c) rfl (fun _ => rfl)) ?_
  refine tri_ent (ent_blkA 7 (.c d.c) rfl (fun _ => rfl)) ?_
  rw [← e2, ← e3] at cM
  clear e0 e1 e2 e3
  generalize lo.c = LC at *
  generalize hi.c = HC at *
  generalize o.c = OC at *
  generalize d.c = DC at *
  generalize mayP o d = MP at *
  have hOK2 := hOK
  have hnot : ∀ (k : Nat), k < 3 → ¬ okB lo hi k → R = false := fun k hk h => by
    cases hRR : R with
    | false => rfl
    | true => exact absurd ((hR.1 hRR).1 k hk) h
  refine tri_loop (X := Nat × Bool) (fun x => ⟨[(14, SV.c (.int .i64 ((x.1 : Nat) : Int))), (13, .c (.bool x.2)), (9, .s 28 0 3 3), (10, .s 35 0 3 3), (11, .s 42 0 3 3), (12, .s 49 0 3 3), (8, .c (.bool false)), (6, .p 6 0), (7, .p 7 0)], [(28, some (.blk 28 3 (.c LC))), (35, some (.blk 35 3 (.c HC))), (42, some (.blk 42 3 (.c OC))), (49, some (.blk 49 3 (.c DC))), (6, some (.blk 6 32 (.c OC))), (7, some (.blk 7 32 (.c DC)))]⟩)
    (fun x => x.1 ≤ 3 ∧ (∀ j, j < x.1 → okB lo hi j) ∧ (x.2 = true ↔ ∀ j, j < x.1 → A j ≤ O j ∧ O j ≤ B j)) (fun x => 3 - x.1) (0, true) ⟨by omega, fun j hj => by omega, ⟨fun _ j hj => by omega, fun _ => rfl⟩⟩ (by exact ent_keep (by repeat (first | exact hasT_nil | refine hasT_cons rfl ?_ | refine hasT_eq rfl (svi (by omega)) ?_)) (by repeat (first | exact hasR_nil | refine hasR_cons rfl ?_))) ?_
  rintro ⟨i, b⟩ ⟨hi3, hok, hin⟩ K next
  dsimp only at *
  by_cases h3 : i < 3
  · have qa := gA i h3
    have qb := gB i h3
    have qo := gO i h3
    have hoki := hOK i
    have hni := hnot i h3
    have nx : ∀ (S' : St) (b' : Bool), okB lo hi i → (b' = true ↔ b = true ∧ A i ≤ O i ∧ O i ≤ B i) → Ents _ S' _ → _ := fun S' b' ho hb => next S' (i + 1, b') ⟨by omega, fun j hj => by
      rcases Nat.lt_succ_iff_lt_or_eq.1 hj with h | rfl
      · exact hok j h
      · exact ho, by
      rw [hb, hin]
      constructor
      · rintro ⟨q1, q2⟩ j hj
        rcases Nat.lt_succ_iff_lt_or_eq.1 hj with h | rfl
        · exact q1 j h
        · exact q2
      · intro q
        exact ⟨fun j hj => q j (by omega), q i (by omega)⟩⟩ (by show 3 - (i + 1) < 3 - i; omega)
    dsimp only at nx
    clear next hok hin hOK hOK2 hnot gA gB gO gD hR hGF hmb
    generalize hai : A i = a at *
    generalize hbi : B i = bb at *
    generalize hoi : O i = oo at *
    by_cases t1 : a > 65536
    · have hr := hni (by rw [hoki]; omega)
      rw [hr]
      repeat (first | (show Walk1 _ _ _ (_ :: _) _ _; first | (show Walk1 _ _ _ (⟨_, .move _, _, _, _, _⟩ :: _) _ _; refine walk1_t (op_move rfl rfl rfl rfl) ?_) | (show Walk1 _ _ _ (⟨_, .assign _, _, _, _, _⟩ :: _) _ _; refine walk1_t (op_assign rfl rfl rfl rfl) ?_) | (show Walk1 _ _ _ (⟨_, .binOp .lss _ _ _ _, _, _, _, _⟩ :: _) _ _; refine walk1_t (op_ltN rfl rfl rfl (by first | exact evN_const rfl | exact rfl) (by first | exact evN_const rfl | exact rfl)) ?_)) | (show WalkTo _ _ _ _ (_ :: _) _ _ _; first | (show WalkTo _ _ _ _ (⟨_, _, _, _, _, some _⟩ :: _) _ _ _; refine walk_no rfl rfl (by first | exact decide_eq_true (by omega) | exact decide_eq_false (by omega) | rfl | (show _ = true; with_reducible assumption) | (show _ = false; with_reducible assumption) | (simp <;> fail) | omega) rfl ?_) | (show WalkTo _ _ _ _ (⟨_, .move _, _, _, _, _⟩ :: _) _ _ _; refine walk_t (op_move rfl rfl rfl rfl) ?_) | (show WalkTo _ _ _ _ (⟨_, .binOp .gtr _ _ _ _, _, _, _, _⟩ :: _) _ _ _; refine walk_t (op_gtI rfl rfl rfl rfl rfl) ?_) | (show WalkTo _ _ _ _ (⟨_, .pick _ _ _, _, _, _, _⟩ :: _) _ _ _; refine walk_t (op_pickY rfl rfl rfl rfl (by first | exact decide_eq_true (by omega) | exact decide_eq_false (by omega) | rfl | (show _ = true; with_reducible assumption) | (show _ = false; with_reducible assumption) | (simp <;> fail) | omega) rfl) ?_) | (show WalkTo _ _ _ _ (⟨_, .indexAddr _ _ _, _, _, _, _⟩ :: _) _ _ _; refine walk_t (op_idxS rfl rfl rfl rfl (by first | exact evK_const rfl | exact evK_tmp rfl) rfl rfl (by first | omega | decide) off_one) ?_) | (show WalkTo _ _ _ _ (⟨_, .load _ _, _, _, _, _⟩ :: _) _ _ _; refine walk_t (op_load rfl rfl rfl rfl rfl rfl rfl (ld_any (by with_reducible assumption))) ?_)) | refine go1 ?_ | refine end_block_other rfl ?_ | refine end_scope (fun _ h => by cases h) ?_ | (refine walk_endD ?_ ?_; (· kernel_rfl)) | refine tri_yesA rfl ?_ | refine tri_noA rfl ?_ | refine tri_trueA rfl ?_ | refine tri_falseA rfl ?_)
      refine end_ret (.c (.bool false)) (res_tmp rfl rfl) ?_
      exact fin_below fun _ => rfl
    by_cases t2 : a < -65536
    · have hr := hni (by rw [hoki]; omega)
      rw [hr]
      repeat (first | (show Walk1 _ _ _ (_ :: _) _ _; first | (show Walk1 _ _ _ (⟨_, .move _, _, _, _, _⟩ :: _) _ _; refine walk1_t (op_move rfl rfl rfl rfl) ?_) | (show Walk1 _ _ _ (⟨_, .assign _, _, _, _, _⟩ :: _) _ _; refine walk1_t (op_assign rfl rfl rfl rfl) ?_) | (show Walk1 _ _ _ (⟨_, .binOp .lss _ _ _ _, _, _, _, _⟩ :: _) _ _; refine walk1_t (op_ltN rfl rfl rfl (by first | exact evN_const rfl | exact rfl) (by first | exact evN_const rfl | exact rfl)) ?_)) | (show WalkTo _ _ _ _ (_ :: _) _ _ _; first | (show WalkTo _ _ _ _ (⟨_, _, _, _, _, some _⟩ :: _) _ _ _; first | refine walk_yes rfl rfl (by first | exact decide_eq_true (by omega) | exact decide_eq_false (by omega) | rfl | (show _ = true; with_reducible assumption) | (show _ = false; with_reducible assumption) | (simp <;> fail) | omega) ?_ | refine walk_no rfl rfl (by first | exact decide_eq_true (by omega) | exact decide_eq_false (by omega) | rfl | (show _ = true; with_reducible assumption) | (show _ = false; with_reducible assumption) | (simp <;> fail) | omega) rfl ?_) | (show WalkTo _ _ _ _ (⟨_, .move _, _, _, _, _⟩ :: _) _ _ _; refine walk_t (op_move rfl rfl rfl rfl) ?_) | (show WalkTo _ _ _ _ (⟨_, .binOp .lss _ _ _ _, _, _, _, _⟩ :: _) _ _ _; refine walk_t (op_ltI rfl rfl rfl rfl rfl) ?_) | (show WalkTo _ _ _ _ (⟨_, .binOp .gtr _ _ _ _, _, _, _, _⟩ :: _) _ _ _; refine walk_t (op_gtI rfl rfl rfl rfl rfl) ?_) | (show WalkTo _ _ _ _ (⟨_, .pick _ _ _, _, _, _, _⟩ :: _) _ _ _; first | refine walk_t (op_pickY rfl rfl rfl rfl (by first | exact decide_eq_true (by omega) | exact decide_eq_false (by omega) | rfl | (show _ = true; with_reducible assumption) | (show _ = false; with_reducible assumption) | (simp <;> fail) | omega) rfl) ?_ | refine walk_t (op_pickN rfl rfl rfl rfl (by first | exact decide_eq_true (by omega) | exact decide_eq_false (by omega) | rfl | (show _ = true; with_reducible assumption) | (show _ = false; with_reducible assumption) | (simp <;> fail) | omega) rfl) ?_) | (show WalkTo _ _ _ _ (⟨_, .indexAddr _ _ _, _, _, _, _⟩ :: _) _ _ _; refine walk_t (op_idxS rfl rfl rfl rfl (by first | exact evK_const rfl | exact evK_tmp rfl) rfl rfl (by first | omega | decide) off_one) ?_) | (show WalkTo _ _ _ _ (⟨_, .load _ _, _, _, _, _⟩ :: _) _ _ _; refine walk_t (op_load rfl rfl rfl rfl rfl rfl rfl (ld_any (by with_reducible assumption))) ?_)) | refine go1 ?_ | refine end_block_other rfl ?_ | refine end_scope (fun _ h => by cases h) ?_ | (refine walk_endD ?_ ?_; (· kernel_rfl)) | refine tri_yesA rfl ?_ | refine tri_noA rfl ?_ | refine tri_trueA rfl ?_ | refine tri_falseA rfl ?_)
      refine end_ret (.c (.bool false)) (res_tmp rfl rfl) ?_
      exact fin_below fun _ => rfl
    by_cases t3 : bb > 65536
    · have hr := hni (by rw [hoki]; omega)
      rw [hr]
      repeat (first | (show Walk1 _ _ _ (_ :: _) _ _; first | (show Walk1 _ _ _ (⟨_, .move _, _, _, _, _⟩ :: _) _ _; refine walk1_t (op_move rfl rfl rfl rfl) ?_) | (show Walk1 _ _ _ (⟨_, .assign _, _, _, _, _⟩ :: _) _ _; refine walk1_t (op_assign rfl rfl rfl rfl) ?_) | (show Walk1 _ _ _ (⟨_, .binOp .lss _ _ _ _, _, _, _, _⟩ :: _) _ _; refine walk1_t (op_ltN rfl rfl rfl (by first | exact evN_const rfl | exact rfl) (by first | exact evN_const rfl | exact rfl)) ?_)) | (show WalkTo _ _ _ _ (_ :: _) _ _ _; first | (show WalkTo _ _ _ _ (⟨_, _, _, _, _, some _⟩ :: _) _ _ _; first | refine walk_yes rfl rfl (by first | exact decide_eq_true (by omega) | exact decide_eq_false (by omega) | rfl | (show _ = true; with_reducible assumption) | (show _ = false; with_reducible assumption) | (simp <;> fail) | omega) ?_ | refine walk_no rfl rfl (by first | exact decide_eq_true (by omega) | exact decide_eq_false (by omega) | rfl | (show _ = true; with_reducible assumption) | (show _ = false; with_reducible assumption) | (simp <;> fail) | omega) rfl ?_) | (show WalkTo _ _ _ _ (⟨_, .move _, _, _, _, _⟩ :: _) _ _ _; refine walk_t (op_move rfl rfl rfl rfl) ?_) | (show WalkTo _ _ _ _ (⟨_, .binOp .lss _ _ _ _, _, _, _, _⟩ :: _) _ _ _; refine walk_t (op_ltI rfl rfl rfl rfl rfl) ?_) | (show WalkTo _ _ _ _ (⟨_, .binOp .gtr _ _ _ _, _, _, _, _⟩ :: _) _ _ _; refine walk_t (op_gtI rfl rfl rfl rfl rfl) ?_) | (show WalkTo _ _ _ _ (⟨_, .pick _ _ _, _, _, _, _⟩ :: _) _ _ _; first | refine walk_t (op_pickY rfl rfl rfl rfl (by first | exact decide_eq_true (by omega) | exact decide_eq_false (by omega) | rfl | (show _ = true; with_reducible assumption) | (show _ = false; with_reducible assumption) | (simp <;> fail) | omega) rfl) ?_ | refine walk_t (op_pickN rfl rfl rfl rfl (by first | exact decide_eq_true (by omega) | exact decide_eq_false (by omega) | rfl | (show _ = true; with_reducible assumption) | (show _ = false; with_reducible assumption) | (simp <;> fail) | omega) rfl) ?_) | (show WalkTo _ _ _ _ (⟨_, .indexAddr _ _ _, _, _, _, _⟩ :: _) _ _ _; refine walk_t (op_idxS rfl rfl rfl rfl (by first | exact evK_const rfl | exact evK_tmp rfl) rfl rfl (by first | omega | decide) off_one) ?_) | (show WalkTo _ _ _ _ (⟨_, .load _ _, _, _, _, _⟩ :: _) _ _ _; refine walk_t (op_load rfl rfl rfl rfl rfl rfl rfl (ld_any (by with_reducible assumption))) ?_)) | refine go1 ?_ | refine end_block_other rfl ?_ | refine end_scope (fun _ h => by cases h) ?_ | (refine walk_endD ?_ ?_; (· kernel_rfl)) | refine tri_yesA rfl ?_ | refine tri_noA rfl ?_ | refine tri_trueA rfl ?_ | refine tri_falseA rfl ?_)
      refine end_ret (.c (.bool false)) (res_tmp rfl rfl) ?_
      exact fin_below fun _ => rfl
    by_cases t4 : bb < -65536
    · have hr := hni (by rw [hoki]; omega)
      rw [hr]
      repeat (first | (show Walk1 _ _ _ (_ :: _) _ _; first | (show Walk1 _ _ _ (⟨_, .move _, _, _, _, _⟩ :: _) _ _; refine walk1_t (op_move rfl rfl rfl rfl) ?_) | (show Walk1 _ _ _ (⟨_, .assign _, _, _, _, _⟩ :: _) _ _; refine walk1_t (op_assign rfl rfl rfl rfl) ?_) | (show Walk1 _ _ _ (⟨_, .binOp .lss _ _ _ _, _, _, _, _⟩ :: _) _ _; refine walk1_t (op_ltN rfl rfl rfl (by first | exact evN_const rfl | exact rfl) (by first | exact evN_const rfl | exact rfl)) ?_)) | (show WalkTo _ _ _ _ (_ :: _) _ _ _; first | (show WalkTo _ _ _ _ (⟨_, _, _, _, _, some _⟩ :: _) _ _ _; first | refine walk_yes rfl rfl (by first | exact decide_eq_true (by omega) | exact decide_eq_false (by omega) | rfl | (show _ = true; with_reducible assumption) | (show _ = false; with_reducible assumption) | (simp <;> fail) | omega) ?_ | refine walk_no rfl rfl (by first | exact decide_eq_true (by omega) | exact decide_eq_false (by omega) | rfl | (show _ = true; with_reducible assumption) | (show _ = false; with_reducible assumption) | (simp <;> fail) | omega) rfl ?_) | (show WalkTo _ _ _ _ (⟨_, .move _, _, _, _, _⟩ :: _) _ _ _; refine walk_t (op_move rfl rfl rfl rfl) ?_) | (show WalkTo _ _ _ _ (⟨_, .binOp .lss _ _ _ _, _, _, _, _⟩ :: _) _ _ _; refine walk_t (op_ltI rfl rfl rfl rfl rfl) ?_) | (show WalkTo _ _ _ _ (⟨_, .binOp .gtr _ _ _ _, _, _, _, _⟩ :: _) _ _ _; refine walk_t (op_gtI rfl rfl rfl rfl rfl) ?_) | (show WalkTo _ _ _ _ (⟨_, .pick _ _ _, _, _, _, _⟩ :: _) _ _ _; first | refine walk_t (op_pickY rfl rfl rfl rfl (by first | exact decide_eq_true (by omega) | exact decide_eq_false (by omega) | rfl | (show _ = true; with_reducible assumption) | (show _ = false; with_reducible assumption) | (simp <;> fail) | omega) rfl) ?_ | refine walk_t (op_pickN rfl rfl rfl rfl (by first | exact decide_eq_true (by omega) | exact decide_eq_false (by omega) | rfl | (show _ = true; with_reducible assumption) | (show _ = false; with_reducible assumption) | (simp <;> fail) | omega) rfl) ?_) | (show WalkTo _ _ _ _ (⟨_, .indexAddr _ _ _, _, _, _, _⟩ :: _) _ _ _; refine walk_t (op_idxS rfl rfl rfl rfl (by first | exact evK_const rfl | exact evK_tmp rfl) rfl rfl (by first | omega | decide) off_one) ?_) | (show WalkTo _ _ _ _ (⟨_, .load _ _, _, _, _, _⟩ :: _) _ _ _; refine walk_t (op_load rfl rfl rfl rfl rfl rfl rfl (ld_any (by with_reducible assumption))) ?_)) | refine go1 ?_ | refine end_block_other rfl ?_ | refine end_scope (fun _ h => by cases h) ?_ | (refine walk_endD ?_ ?_; (· kernel_rfl)) | refine tri_yesA rfl ?_ | refine tri_noA rfl ?_ | refine tri_trueA rfl ?_ | refine tri_falseA rfl ?_)
      refine end_ret (.c (.bool false)) (res_tmp rfl rfl) ?_
      exact fin_below fun _ => rfl
    by_cases t5 : a > bb
    · have hr := hni (by rw [hoki]; omega)
      rw [hr]
      repeat (first | (show Walk1 _ _ _ (_ :: _) _ _; first | (show Walk1 _ _ _ (⟨_, .move _, _, _, _, _⟩ :: _) _ _; refine walk1_t (op_move rfl rfl rfl rfl) ?_) | (show Walk1 _ _ _ (⟨_, .assign _, _, _, _, _⟩ :: _) _ _; refine walk1_t (op_assign rfl rfl rfl rfl) ?_) | (show Walk1 _ _ _ (⟨_, .binOp .lss _ _ _ _, _, _, _, _⟩ :: _) _ _; refine walk1_t (op_ltN rfl rfl rfl (by first | exact evN_const rfl | exact rfl) (by first | exact evN_const rfl | exact rfl)) ?_)) | (show WalkTo _ _ _ _ (_ :: _) _ _ _; first | (show WalkTo _ _ _ _ (⟨_, _, _, _, _, some _⟩ :: _) _ _ _; refine walk_yes rfl rfl (by first | exact decide_eq_true (by omega) | exact decide_eq_false (by omega) | rfl | (show _ = true; with_reducible assumption) | (show _ = false; with_reducible assumption) | (simp <;> fail) | omega) ?_) | (show WalkTo _ _ _ _ (⟨_, .move _, _, _, _, _⟩ :: _) _ _ _; refine walk_t (op_move rfl rfl rfl rfl) ?_) | (show WalkTo _ _ _ _ (⟨_, .binOp .lss _ _ _ _, _, _, _, _⟩ :: _) _ _ _; refine walk_t (op_ltI rfl rfl rfl rfl rfl) ?_) | (show WalkTo _ _ _ _ (⟨_, .binOp .gtr _ _ _ _, _, _, _, _⟩ :: _) _ _ _; refine walk_t (op_gtI rfl rfl rfl rfl rfl) ?_) | (show WalkTo _ _ _ _ (⟨_, .pick _ _ _, _, _, _, _⟩ :: _) _ _ _; refine walk_t (op_pickN rfl rfl rfl rfl (by first | exact decide_eq_true (by omega) | exact decide_eq_false (by omega) | rfl | (show _ = true; with_reducible assumption) | (show _ = false; with_reducible assumption) | (simp <;> fail) | omega) rfl) ?_) | (show WalkTo _ _ _ _ (⟨_, .indexAddr _ _ _, _, _, _, _⟩ :: _) _ _ _; refine walk_t (op_idxS rfl rfl rfl rfl (by first | exact evK_const rfl | exact evK_tmp rfl) rfl rfl (by first | omega | decide) off_one) ?_) | (show WalkTo _ _ _ _ (⟨_, .load _ _, _, _, _, _⟩ :: _) _ _ _; refine walk_t (op_load rfl rfl rfl rfl rfl rfl rfl (ld_any (by with_reducible assumption))) ?_)) | refine go1 ?_ | refine end_block_other rfl ?_ | refine end_scope (fun _ h => by cases h) ?_ | (refine walk_endD ?_ ?_; (· kernel_rfl)) | refine tri_yesA rfl ?_ | refine tri_noA rfl ?_ | refine tri_trueA rfl ?_ | refine tri_falseA rfl ?_)
      refine end_ret (.c (.bool false)) (res_tmp rfl rfl) ?_
      exact fin_below fun _ => rfl
    have ho := hoki.2 ⟨t1, t2, t3, t4, t5⟩
    clear hoki hni
    cases b with
    | false =>
      repeat (first | (show Walk1 _ _ _ (_ :: _) _ _; first | (show Walk1 _ _ _ (⟨_, .move _, _, _, _, _⟩ :: _) _ _; refine walk1_t (op_move rfl rfl rfl rfl) ?_) | (show Walk1 _ _ _ (⟨_, .assign _, _, _, _, _⟩ :: _) _ _; refine walk1_t (op_assign rfl rfl rfl rfl) ?_) | (show Walk1 _ _ _ (⟨_, .binOp .add _ _ _ _, _, _, _, _⟩ :: _) _ _; refine walk1_t (op_addN rfl rfl rfl (by first | exact evN_const rfl | exact rfl) (by first | exact evN_const rfl | exact rfl) (by omega)) ?_) | (show Walk1 _ _ _ (⟨_, .binOp .lss _ _ _ _, _, _, _, _⟩ :: _) _ _; refine walk1_t (op_ltN rfl rfl rfl (by first | exact evN_const rfl | exact rfl) (by first | exact evN_const rfl | exact rfl)) ?_)) | (show WalkTo _ _ _ _ (_ :: _) _ _ _; first | (show WalkTo _ _ _ _ (⟨_, _, _, _, _, some _⟩ :: _) _ _ _; first | refine walk_yes rfl rfl (by first | exact decide_eq_true (by omega) | exact decide_eq_false (by omega) | rfl | (show _ = true; with_reducible assumption) | (show _ = false; with_reducible assumption) | (simp <;> fail) | omega) ?_ | refine walk_no rfl rfl (by first | exact decide_eq_true (by omega) | exact decide_eq_false (by omega) | rfl | (show _ = true; with_reducible assumption) | (show _ = false; with_reducible assumption) | (simp <;> fail) | omega) rfl ?_) | (show WalkTo _ _ _ _ (⟨_, .move _, _, _, _, _⟩ :: _) _ _ _; refine walk_t (op_move rfl rfl rfl rfl) ?_) | (show WalkTo _ _ _ _ (⟨_, .assign _, _, _, _, _⟩ :: _) _ _ _; refine walk_t (op_assign rfl rfl rfl rfl) ?_) | (show WalkTo _ _ _ _ (⟨_, .binOp .lss _ _ _ _, _, _, _, _⟩ :: _) _ _ _; refine walk_t (op_ltI rfl rfl rfl rfl rfl) ?_) | (show WalkTo _ _ _ _ (⟨_, .binOp .gtr _ _ _ _, _, _, _, _⟩ :: _) _ _ _; refine walk_t (op_gtI rfl rfl rfl rfl rfl) ?_) | (show WalkTo _ _ _ _ (⟨_, .pick _ _ _, _, _, _, _⟩ :: _) _ _ _; refine walk_t (op_pickN rfl rfl rfl rfl (by first | exact decide_eq_true (by omega) | exact decide_eq_false (by omega) | rfl | (show _ = true; with_reducible assumption) | (show _ = false; with_reducible assumption) | (simp <;> fail) | omega) rfl) ?_) | (show WalkTo _ _ _ _ (⟨_, .indexAddr _ _ _, _, _, _, _⟩ :: _) _ _ _; refine walk_t (op_idxS rfl rfl rfl rfl (by first | exact evK_const rfl | exact evK_tmp rfl) rfl rfl (by first | omega | decide) off_one) ?_) | (show WalkTo _ _ _ _ (⟨_, .load _ _, _, _, _, _⟩ :: _) _ _ _; refine walk_t (op_load rfl rfl rfl rfl rfl rfl rfl (ld_any (by with_reducible assumption))) ?_)) | refine go1 ?_ | refine end_block_other rfl ?_ | refine end_scope (fun _ h => by cases h) ?_ | (refine walk_endD ?_ ?_; (· kernel_rfl)) | refine tri_yesA rfl ?_ | refine tri_noA rfl ?_ | refine tri_trueA rfl ?_ | refine tri_falseA rfl ?_)
      exact nx _ false ho (by simp) (by exact ent_keep (by repeat (first | exact hasT_nil | refine hasT_cons rfl ?_ | refine hasT_eq rfl (svi (by omega)) ?_)) (by repeat (first | exact hasR_nil | refine hasR_cons rfl ?_)))
    | true =>
      by_cases t6 : oo ≥ a
      · repeat (first | (show Walk1 _ _ _ (_ :: _) _ _; first | (show Walk1 _ _ _ (⟨_, .move _, _, _, _, _⟩ :: _) _ _; refine walk1_t (op_move rfl rfl rfl rfl) ?_) | (show Walk1 _ _ _ (⟨_, .assign _, _, _, _, _⟩ :: _) _ _; refine walk1_t (op_assign rfl rfl rfl rfl) ?_) | (show Walk1 _ _ _ (⟨_, .binOp .add _ _ _ _, _, _, _, _⟩ :: _) _ _; refine walk1_t (op_addN rfl rfl rfl (by first | exact evN_const rfl | exact rfl) (by first | exact evN_const rfl | exact rfl) (by omega)) ?_) | (show Walk1 _ _ _ (⟨_, .binOp .lss _ _ _ _, _, _, _, _⟩ :: _) _ _; refine walk1_t (op_ltN rfl rfl rfl (by first | exact evN_const rfl | exact rfl) (by first | exact evN_const rfl | exact rfl)) ?_)) | (show WalkTo _ _ _ _ (_ :: _) _ _ _; first | (show WalkTo _ _ _ _ (⟨_, _, _, _, _, some _⟩ :: _) _ _ _; refine walk_yes rfl rfl (by first | exact decide_eq_true (by omega) | exact decide_eq_false (by omega) | rfl | (show _ = true; with_reducible assumption) | (show _ = false; with_reducible assumption) | (simp <;> fail) | omega) ?_) | (show WalkTo _ _ _ _ (⟨_, .move _, _, _, _, _⟩ :: _) _ _ _; refine walk_t (op_move rfl rfl rfl rfl) ?_) | (show WalkTo _ _ _ _ (⟨_, .assign _, _, _, _, _⟩ :: _) _ _ _; refine walk_t (op_assign rfl rfl rfl rfl) ?_) | (show WalkTo _ _ _ _ (⟨_, .binOp .lss _ _ _ _, _, _, _, _⟩ :: _) _ _ _; refine walk_t (op_ltI rfl rfl rfl rfl rfl) ?_) | (show WalkTo _ _ _ _ (⟨_, .binOp .leq _ _ _ _, _, _, _, _⟩ :: _) _ _ _; refine walk_t (op_leI rfl rfl rfl rfl rfl) ?_) | (show WalkTo _ _ _ _ (⟨_, .binOp .gtr _ _ _ _, _, _, _, _⟩ :: _) _ _ _; refine walk_t (op_gtI rfl rfl rfl rfl rfl) ?_) | (show WalkTo _ _ _ _ (⟨_, .binOp .geq _ _ _ _, _, _, _, _⟩ :: _) _ _ _; refine walk_t (op_geI rfl rfl rfl rfl rfl) ?_) | (show WalkTo _ _ _ _ (⟨_, .pick _ _ _, _, _, _, _⟩ :: _) _ _ _; first | refine walk_t (op_pickY rfl rfl rfl rfl (by first | exact decide_eq_true (by omega) | exact decide_eq_false (by omega) | rfl | (show _ = true; with_reducible assumption) | (show _ = false; with_reducible assumption) | (simp <;> fail) | omega) rfl) ?_ | refine walk_t (op_pickN rfl rfl rfl rfl (by first | exact decide_eq_true (by omega) | exact decide_eq_false (by omega) | rfl | (show _ = true; with_reducible assumption) | (show _ = false; with_reducible assumption) | (simp <;> fail) | omega) rfl) ?_) | (show WalkTo _ _ _ _ (⟨_, .indexAddr _ _ _, _, _, _, _⟩ :: _) _ _ _; refine walk_t (op_idxS rfl rfl rfl rfl (by first | exact evK_const rfl | exact evK_tmp rfl) rfl rfl (by first | omega | decide) off_one) ?_) | (show WalkTo _ _ _ _ (⟨_, .load _ _, _, _, _, _⟩ :: _) _ _ _; refine walk_t (op_load rfl rfl rfl rfl rfl rfl rfl (ld_any (by with_reducible assumption))) ?_)) | refine go1 ?_ | refine end_block_other rfl ?_ | refine end_scope (fun _ h => by cases h) ?_ | (refine walk_endD ?_ ?_; (· kernel_rfl)) | refine tri_yesA rfl ?_ | refine tri_noA rfl ?_ | refine tri_trueA rfl ?_ | refine tri_falseA rfl ?_)
        exact nx _ (decide (oo ≤ bb)) ho (by rw [decide_eq_true_eq]; exact ⟨fun h => ⟨rfl, t6, h⟩, fun h => h.2.2⟩) (by exact ent_keep (by repeat (first | exact hasT_nil | refine hasT_cons rfl ?_ | refine hasT_eq rfl (svi (by omega)) ?_)) (by repeat (first | exact hasR_nil | refine hasR_cons rfl ?_)))
      · repeat (first | (show Walk1 _ _ _ (_ :: _) _ _; first | (show Walk1 _ _ _ (⟨_, .move _, _, _, _, _⟩ :: _) _ _; refine walk1_t (op_move rfl rfl rfl rfl) ?_) | (show Walk1 _ _ _ (⟨_, .assign _, _, _, _, _⟩ :: _) _ _; refine walk1_t (op_assign rfl rfl rfl rfl) ?_) | (show Walk1 _ _ _ (⟨_, .binOp .add _ _ _ _, _, _, _, _⟩ :: _) _ _; refine walk1_t (op_addN rfl rfl rfl (by first | exact evN_const rfl | exact rfl) (by first | exact evN_const rfl | exact rfl) (by omega)) ?_) | (show Walk1 _ _ _ (⟨_, .binOp .lss _ _ _ _, _, _, _, _⟩ :: _) _ _; refine walk1_t (op_ltN rfl rfl rfl (by first | exact evN_const rfl | exact rfl) (by first | exact evN_const rfl | exact rfl)) ?_)) | (show WalkTo _ _ _ _ (_ :: _) _ _ _; first | (show WalkTo _ _ _ _ (⟨_, _, _, _, _, some _⟩ :: _) _ _ _; first | refine walk_yes rfl rfl (by first | exact decide_eq_true (by omega) | exact decide_eq_false (by omega) | rfl | (show _ = true; with_reducible assumption) | (show _ = false; with_reducible assumption) | (simp <;> fail) | omega) ?_ | refine walk_no rfl rfl (by first | exact decide_eq_true (by omega) | exact decide_eq_false (by omega) | rfl | (show _ = true; with_reducible assumption) | (show _ = false; with_reducible assumption) | (simp <;> fail) | omega) rfl ?_) | (show WalkTo _ _ _ _ (⟨_, .move _, _, _, _, _⟩ :: _) _ _ _; refine walk_t (op_move rfl rfl rfl rfl) ?_) | (show WalkTo _ _ _ _ (⟨_, .assign _, _, _, _, _⟩ :: _) _ _ _; refine walk_t (op_assign rfl rfl rfl rfl) ?_) | (show WalkTo _ _ _ _ (⟨_, .binOp .lss _ _ _ _, _, _, _, _⟩ :: _) _ _ _; refine walk_t (op_ltI rfl rfl rfl rfl rfl) ?_) | (show WalkTo _ _ _ _ (⟨_, .binOp .gtr _ _ _ _, _, _, _, _⟩ :: _) _ _ _; refine walk_t (op_gtI rfl rfl rfl rfl rfl) ?_) | (show WalkTo _ _ _ _ (⟨_, .binOp .geq _ _ _ _, _, _, _, _⟩ :: _) _ _ _; refine walk_t (op_geI rfl rfl rfl rfl rfl) ?_) | (show WalkTo _ _ _ _ (⟨_, .pick _ _ _, _, _, _, _⟩ :: _) _ _ _; first | refine walk_t (op_pickY rfl rfl rfl rfl (by first | exact decide_eq_true (by omega) | exact decide_eq_false (by omega) | rfl | (show _ = true; with_reducible assumption) | (show _ = false; with_reducible assumption) | (simp <;> fail) | omega) rfl) ?_ | refine walk_t (op_pickN rfl rfl rfl rfl (by first | exact decide_eq_true (by omega) | exact decide_eq_false (by omega) | rfl | (show _ = true; with_reducible assumption) | (show _ = false; with_reducible assumption) | (simp <;> fail) | omega) rfl) ?_) | (show WalkTo _ _ _ _ (⟨_, .indexAddr _ _ _, _, _, _, _⟩ :: _) _ _ _; refine walk_t (op_idxS rfl rfl rfl rfl (by first | exact evK_const rfl | exact evK_tmp rfl) rfl rfl (by first | omega | decide) off_one) ?_) | (show WalkTo _ _ _ _ (⟨_, .load _ _, _, _, _, _⟩ :: _) _ _ _; refine walk_t (op_load rfl rfl rfl rfl rfl rfl rfl (ld_any (by with_reducible assumption))) ?_)) | refine go1 ?_ | refine end_block_other rfl ?_ | refine end_scope (fun _ h => by cases h) ?_ | (refine walk_endD ?_ ?_; (· kernel_rfl)) | refine tri_yesA rfl ?_ | refine tri_noA rfl ?_ | refine tri_trueA rfl ?_ | refine tri_falseA rfl ?_)
        exact nx _ false ho ⟨fun h => (by cases h), fun h => absurd h.2.1 t6⟩ (by exact ent_keep (by repeat (first | exact hasT_nil | refine hasT_cons rfl ?_ | refine hasT_eq rfl (svi (by omega)) ?_)) (by repeat (first | exact hasR_nil | refine hasR_cons rfl ?_)))
  · obtain rfl : i = 3 := by omega
    clear next hOK hnot
    have hAB : ∀ k, k < 3 → -65536 ≤ A k ∧ A k ≤ 65536 ∧ -65536 ≤ B k ∧ B k ≤ 65536 := fun k hk => by
      obtain ⟨q1, q2, q3, q4, q5⟩ := (hOK2 k).1 (hok k hk)
      omega
    cases MP with
    | false =>
      have hr : R = false := by
        cases hRR : R with
        | false => rfl
        | true => exact absurd (hR.1 hRR).2.1 (by decide)
      rw [hr]
      clear hR hr hGF hmb hin hok
      repeat (first | (show Walk1 _ _ _ (_ :: _) _ _; first | (show Walk1 _ _ _ (⟨_, .move _, _, _, _, _⟩ :: _) _ _; refine walk1_t (op_move rfl rfl rfl rfl) ?_) | (show Walk1 _ _ _ (⟨_, .assign _, _, _, _, _⟩ :: _) _ _; refine walk1_t (op_assign rfl rfl rfl rfl) ?_) | (show Walk1 _ _ _ (⟨_, .binOp .lss _ _ _ _, _, _, _, _⟩ :: _) _ _; refine walk1_t (op_ltN rfl rfl rfl (by first | exact evN_const rfl | exact rfl) (by first | exact evN_const rfl | exact rfl)) ?_) | (show Walk1 _ _ _ (⟨_, .unOp _ _ _, _, _, _, _⟩ :: _) _ _; refine walk1_t (op_not rfl rfl rfl rfl) ?_) | (show Walk1 _ _ _ (⟨_, .load _ _, _, _, _, _⟩ :: _) _ _; refine walk1_t (op_loads rfl rfl rfl rfl rfl rfl rfl rfl) ?_) | (show Walk1 _ _ _ (⟨_, .call ⟨.value (.func 53), _, _⟩, _, _, _, _⟩ :: _) _ _; ((first | refine walk1_call rfl rfl rfl rfl (by repeat (first | exact evs_nil | apply evs_cons rfl)) rfl ?_ | refine walk1_call0 rfl rfl rfl (by repeat (first | exact evs_nil | apply evs_cons rfl)) rfl ?_); refine ⟨_, fun e w => cM w, ?_⟩))) | refine go1 ?_ | refine end_block_other rfl ?_ | refine end_scope (fun _ h => by cases h) ?_ | (refine walk_endD ?_ ?_; (· kernel_rfl)) | refine tri_yesA rfl ?_ | refine tri_noA rfl ?_ | refine tri_trueA rfl ?_ | refine tri_falseA rfl ?_)
      refine end_ret (.c (.bool false)) (res_tmp rfl rfl) ?_
      exact fin_below fun _ => rfl
    | true =>
      have hmb := hmb rfl
      cases b with
      | true =>
        have hr : R = true := hR.2 ⟨hok, rfl, .inl (hin.1 rfl)⟩
        rw [hr]
        clear hR hr hGF hmb hin hok
        repeat (first | (show Walk1 _ _ _ (_ :: _) _ _; first | (show Walk1 _ _ _ (⟨_, .move _, _, _, _, _⟩ :: _) _ _; refine walk1_t (op_move rfl rfl rfl rfl) ?_) | (show Walk1 _ _ _ (⟨_, .assign _, _, _, _, _⟩ :: _) _ _; refine walk1_t (op_assign rfl rfl rfl rfl) ?_) | (show Walk1 _ _ _ (⟨_, .binOp .lss _ _ _ _, _, _, _, _⟩ :: _) _ _; refine walk1_t (op_ltN rfl rfl rfl (by first | exact evN_const rfl | exact rfl) (by first | exact evN_const rfl | exact rfl)) ?_) | (show Walk1 _ _ _ (⟨_, .unOp _ _ _, _, _, _, _⟩ :: _) _ _; refine walk1_t (op_not rfl rfl rfl rfl) ?_) | (show Walk1 _ _ _ (⟨_, .load _ _, _, _, _, _⟩ :: _) _ _; refine walk1_t (op_loads rfl rfl rfl rfl rfl rfl rfl rfl) ?_) | (show Walk1 _ _ _ (⟨_, .call ⟨.value (.func 53), _, _⟩, _, _, _, _⟩ :: _) _ _; ((first | refine walk1_call rfl rfl rfl rfl (by repeat (first | exact evs_nil | apply evs_cons rfl)) rfl ?_ | refine walk1_call0 rfl rfl rfl (by repeat (first | exact evs_nil | apply evs_cons rfl)) rfl ?_); refine ⟨_, fun e w => cM w, ?_⟩))) | refine go1 ?_ | refine end_block_other rfl ?_ | refine end_scope (fun _ h => by cases h) ?_ | (refine walk_endD ?_ ?_; (· kernel_rfl)) | refine tri_yesA rfl ?_ | refine tri_noA rfl ?_ | refine tri_trueA rfl ?_ | refine tri_falseA rfl ?_)
        refine end_ret (.c (.bool true)) (res_tmp rfl rfl) ?_
        exact fin_below fun _ => rfl
      | false =>
        have hRf : R = true ↔ ∃ i, i < 3 ∧ ∃ s, s < 2 ∧ goodF lo hi o d i (sideF lo hi o i s) := by
          rw [hR]
          constructor
          · rintro ⟨_, _, h | h⟩
            · exact absurd (hin.2 h) (by decide)
            · exact h
          · intro h
            exact ⟨hok, rfl, .inr h⟩
        clear hR hin hok
        repeat (first | (show Walk1 _ _ _ (_ :: _) _ _; first | (show Walk1 _ _ _ (⟨_, .move _, _, _, _, _⟩ :: _) _ _; refine walk1_t (op_move rfl rfl rfl rfl) ?_) | (show Walk1 _ _ _ (⟨_, .assign _, _, _, _, _⟩ :: _) _ _; refine walk1_t (op_assignN rfl rfl rfl rfl) ?_) | (show Walk1 _ _ _ (⟨_, .binOp .lss _ _ _ _, _, _, _, _⟩ :: _) _ _; refine walk1_t (op_ltN rfl rfl rfl (by first | exact evN_const rfl | exact rfl) (by first | exact evN_const rfl | exact rfl)) ?_) | (show Walk1 _ _ _ (⟨_, .unOp _ _ _, _, _, _, _⟩ :: _) _ _; refine walk1_t (op_not rfl rfl rfl rfl) ?_) | (show Walk1 _ _ _ (⟨_, .load _ _, _, _, _, _⟩ :: _) _ _; refine walk1_t (op_loads rfl rfl rfl rfl rfl rfl rfl rfl) ?_) | (show Walk1 _ _ _ (⟨_, .call ⟨.value (.func 53), _, _⟩, _, _, _, _⟩ :: _) _ _; ((first | refine walk1_call rfl rfl rfl rfl (by repeat (first | exact evs_nil | apply evs_cons rfl)) rfl ?_ | refine walk1_call0 rfl rfl rfl (by repeat (first | exact evs_nil | apply evs_cons rfl)) rfl ?_); refine ⟨_, fun e w => cM w, ?_⟩))) | refine go1 ?_ | refine end_block_other rfl ?_ | refine end_scope (fun _ h => by cases h) ?_ | (refine walk_endD ?_ ?_; (· kernel_rfl)) | refine tri_yesA rfl ?_ | refine tri_noA rfl ?_ | refine tri_trueA rfl ?_ | refine tri_falseA rfl ?_)
        refine tri_loop (X := Nat) (fun i => ⟨[(15, SV.c (.int .i64 ((i : Nat) : Int))), (9, .s 28 0 3 3), (10, .s 35 0 3 3), (11, .s 42 0 3 3), (12, .s 49 0 3 3), (8, .c (.bool false))], [(28, some (.blk 28 3 (.c LC))), (35, some (.blk 35 3 (.c HC))), (42, some (.blk 42 3 (.c OC))), (49, some (.blk 49 3 (.c DC)))]⟩)
          (fun i => i ≤ 3 ∧ ∀ j, j < i → ∀ s, s < 2 → ¬ goodF lo hi o d j (sideF lo hi o j s)) (fun i => 3 - i) 0 ⟨by omega, fun j hj => by omega⟩ (by exact ent_keep (by repeat (first | exact hasT_nil | refine hasT_cons rfl ?_ | refine hasT_eq rfl (svi (by omega)) ?_)) (by repeat (first | exact hasR_nil | refine hasR_cons rfl ?_))) ?_
        rintro i ⟨hi3, hng⟩ K next
        by_cases h3 : i < 3
        · have qa := gA i h3
          have qb := gB i h3
          have qo := gO i h3
          have qd := gD i h3
          have b1 := hAB i h3
          have b2 := hmb i h3
          generalize hai : A i = a at *
          generalize hbi : B i = bb at *
          generalize hoi : O i = oo at *
          generalize hdi : D i = dd at *
          have nx : ∀ (S' : St), (∀ s, s < 2 → ¬ goodF lo hi o d i (sideF lo hi o i s)) → Ents _ S' _ → _ := fun S' hh => next S' (i + 1) ⟨by omega, fun j hj => by
            rcases Nat.lt_succ_iff_lt_or_eq.1 hj with h | rfl
            · exact hng j h
            · exact hh⟩ (by show 3 - (i + 1) < 3 - i; omega)
          clear next
          repeat (first | (show Walk1 _ _ _ (_ :: _) _ _; first | (show Walk1 _ _ _ (⟨_, .move _, _, _, _, _⟩ :: _) _ _; refine walk1_t (op_move rfl rfl rfl rfl) ?_) | (show Walk1 _ _ _ (⟨_, .assign _, _, _, _, _⟩ :: _) _ _; refine walk1_t (op_assignN rfl rfl rfl rfl) ?_) | (show Walk1 _ _ _ (⟨_, .binOp .lss _ _ _ _, _, _, _, _⟩ :: _) _ _; refine walk1_t (op_ltN rfl rfl rfl (by first | exact evN_const rfl | exact rfl) (by first | exact evN_const rfl | exact rfl)) ?_)) | refine go1 ?_ | refine end_block_other rfl ?_ | refine end_scope (fun _ h => by cases h) ?_ | (refine walk_endD ?_ ?_; (· kernel_rfl)) | refine tri_yesA rfl ?_ | refine tri_noA rfl ?_ | refine tri_trueA rfl ?_ | refine tri_falseA rfl ?_)
          refine tri_loop (X := Nat) (fun s => ⟨[(16, SV.c (.int .i64 ((s : Nat) : Int))), (15, SV.c (.int .i64 ((i : Nat) : Int))), (9, .s 28 0 3 3), (10, .s 35 0 3 3), (11, .s 42 0 3 3), (12, .s 49 0 3 3), (8, .c (.bool false))], [(28, some (.blk 28 3 (.c LC))), (35, some (.blk 35 3 (.c HC))), (42, some (.blk 42 3 (.c OC))), (49, some (.blk 49 3 (.c DC)))]⟩)
            (fun s => s ≤ 2 ∧ ∀ s', s' < s → ¬ goodF lo hi o d i (sideF lo hi o i s')) (fun s => 2 - s) 0 ⟨by omega, fun j hj => by omega⟩ (by exact ent_keep (by repeat (first | exact hasT_nil | refine hasT_cons rfl ?_ | refine hasT_eq rfl (svi (by omega)) ?_)) (by repeat (first | exact hasR_nil | refine hasR_cons rfl ?_))) ?_
          rintro s ⟨hs2, hng2⟩ K2 next2
          have nx2 : ∀ (S' : St), ¬ goodF lo hi o d i (sideF lo hi o i s) → s < 2 → Ents _ S' _ → _ := fun S' hh hlt => next2 S' (s + 1) ⟨by omega, fun j hj => by
            rcases Nat.lt_succ_iff_lt_or_eq.1 hj with h | rfl
            · exact hng2 j h
            · exact hh⟩ (by show 2 - (s + 1) < 2 - s; omega)
          have h2 : s < 2 ∨ s = 2 := by omega
          rcases h2 with h2 | rfl
          · repeat (first | (show Walk1 _ _ _ (_ :: _) _ _; first | (show Walk1 _ _ _ (⟨_, .move _, _, _, _, _⟩ :: _) _ _; refine walk1_t (op_move rfl rfl rfl rfl) ?_) | (show Walk1 _ _ _ (⟨_, .binOp .lss _ _ _ _, _, _, _, _⟩ :: _) _ _; refine walk1_t (op_ltN rfl rfl rfl (by first | exact evN_const rfl | exact rfl) (by first | exact evN_const rfl | exact rfl)) ?_) | (show Walk1 _ _ _ (⟨_, .binOp .eql _ _ _ _, _, _, _, _⟩ :: _) _ _; refine walk1_t (op_eqN rfl rfl rfl (by first | exact evN_const rfl | exact rfl) (by first | exact evN_const rfl | exact rfl)) ?_)) | (show WalkTo _ _ _ _ (_ :: _) _ _ _; first | (show WalkTo _ _ _ _ (⟨_, .move _, _, _, _, _⟩ :: _) _ _ _; refine walk_t (op_move rfl rfl rfl rfl) ?_) | (show WalkTo _ _ _ _ (⟨_, .assign _, _, _, _, _⟩ :: _) _ _ _; refine walk_t (op_assign rfl rfl rfl rfl) ?_) | (show WalkTo _ _ _ _ (⟨_, .binOp .sub _ _ _ _, _, _, _, _⟩ :: _) _ _ _; refine walk_t (op_subI rfl rfl rfl rfl rfl (by omega)) ?_) | (show WalkTo _ _ _ _ (⟨_, .indexAddr _ _ _, _, _, _, _⟩ :: _) _ _ _; refine walk_t (op_idxS rfl rfl rfl rfl (by first | exact evK_const rfl | exact evK_tmp rfl) rfl rfl (by first | omega | decide) off_one) ?_) | (show WalkTo _ _ _ _ (⟨_, .load _ _, _, _, _, _⟩ :: _) _ _ _; refine walk_t (op_load rfl rfl rfl rfl rfl rfl rfl (ld_any (by with_reducible assumption))) ?_)) | refine go1 ?_ | refine end_block_other rfl ?_ | refine end_scope (fun _ h => by cases h) ?_ | (refine walk_endD ?_ ?_; (· kernel_rfl)) | refine tri_yesA rfl ?_ | refine tri_noA rfl ?_ | refine tri_trueA rfl ?_ | refine tri_falseA rfl ?_)
            refine tri_normY (fun (n : Int) => ⟨[(17, .c (.int .i64 n)), (16, SV.c (.int .i64 ((s : Nat) : Int))), (15, SV.c (.int .i64 ((i : Nat) : Int))), (9, .s 28 0 3 3), (10, .s 35 0 3 3), (11, .s 42 0 3 3), (12, .s 49 0 3 3), (8, .c (.bool false))], [(28, some (.blk 28 3 (.c LC))), (35, some (.blk 35 3 (.c HC))), (42, some (.blk 42 3 (.c OC))), (49, some (.blk 49 3 (.c DC)))]⟩) (fun n => n = if s = 0 then a - oo else bb - oo) ?_ ?_
            · intro m hm
              have bm : -131072 ≤ m ∧ m ≤ 131072 := by
                rw [hm]
                split <;> omega
              repeat (first | (show Walk1 _ _ _ (_ :: _) _ _; first | (show Walk1 _ _ _ (⟨_, .move _, _, _, _, _⟩ :: _) _ _; refine walk1_t (op_move rfl rfl rfl rfl) ?_) | (show Walk1 _ _ _ (⟨_, .assign _, _, _, _, _⟩ :: _) _ _; refine walk1_t (op_assign rfl rfl rfl rfl) ?_) | (show Walk1 _ _ _ (⟨_, .binOp .lss _ _ _ _, _, _, _, _⟩ :: _) _ _; refine walk1_t (op_ltI rfl rfl rfl rfl rfl) ?_) | (show Walk1 _ _ _ (⟨_, .indexAddr _ _ _, _, _, _, _⟩ :: _) _ _; refine walk1_t (op_idxS rfl rfl rfl rfl (by first | exact evK_const rfl | exact evK_tmp rfl) rfl rfl (by first | omega | decide) off_one) ?_) | (show Walk1 _ _ _ (⟨_, .load _ _, _, _, _, _⟩ :: _) _ _; refine walk1_t (op_load rfl rfl rfl rfl rfl rfl rfl (ld_any (by with_reducible assumption))) ?_)) | refine go1 ?_ | refine end_block_other rfl ?_ | refine end_scope (fun _ h => by cases h) ?_ | (refine walk_endD ?_ ?_; (· kernel_rfl)) | refine tri_yesA rfl ?_ | refine tri_noA rfl ?_ | refine tri_trueA rfl ?_ | refine tri_falseA rfl ?_)
              refine tri_normY (fun (z : Int × Int) => ⟨[(17, .c (.int .i64 z.1)), (18, .c (.int .i64 z.2)), (16, SV.c (.int .i64 ((s : Nat) : Int))), (15, SV.c (.int .i64 ((i : Nat) : Int))), (9, .s 28 0 3 3), (10, .s 35 0 3 3), (11, .s 42 0 3 3), (12, .s 49 0 3 3), (8, .c (.bool false))], [(28, some (.blk 28 3 (.c LC))), (35, some (.blk 35 3 (.c HC))), (42, some (.blk 42 3 (.c OC))), (49, some (.blk 49 3 (.c DC)))]⟩) (fun z => z.1 = (if dd < 0 then -m else m) ∧ z.2 = if dd < 0 then -dd else dd) ?_ ?_
              · rintro ⟨N, W⟩ ⟨hN, hW⟩
                dsimp only at hN hW ⊢
                have hg := hGF i s m N W (by rw [hm, hai, hbi, hoi]) (by rw [hN, hdi]) (by rw [hW, hdi])
                have bN : -262144 ≤ N ∧ N ≤ 262144 := by
                  rw [hN]
                  split <;> omega
                have bW : -262144 ≤ W ∧ W ≤ 262144 := by
                  rw [hW]
                  split <;> omega
                clear hN hW hm bm hGF
                by_cases hw : W = 0
                · have hno : ¬ goodF lo hi o d i (sideF lo hi o i s) := fun h => (hg.1 h).1 hw
                  clear hg
                  repeat (first | (show Walk1 _ _ _ (_ :: _) _ _; first | (show Walk1 _ _ _ (⟨_, _, _, _, _, some _⟩ :: _) _ _; refine walk1_no rfl rfl (by first | exact decide_eq_true (by omega) | exact decide_eq_false (by omega) | rfl | (show _ = true; with_reducible assumption) | (show _ = false; with_reducible assumption) | (simp <;> fail) | omega) rfl ?_) | (show Walk1 _ _ _ (⟨_, .move _, _, _, _, _⟩ :: _) _ _; refine walk1_t (op_move rfl rfl rfl rfl) ?_) | (show Walk1 _ _ _ (⟨_, .assign _, _, _, _, _⟩ :: _) _ _; refine walk1_t (op_assign rfl rfl rfl rfl) ?_) | (show Walk1 _ _ _ (⟨_, .binOp .add _ _ _ _, _, _, _, _⟩ :: _) _ _; refine walk1_t (op_addN rfl rfl rfl (by first | exact evN_const rfl | exact rfl) (by first | exact evN_const rfl | exact rfl) (by omega)) ?_) | (show Walk1 _ _ _ (⟨_, .binOp .eql _ _ _ _, _, _, _, _⟩ :: _) _ _; refine walk1_t (op_eqI rfl rfl rfl rfl rfl) ?_) | (show Walk1 _ _ _ (⟨_, .pick _ _ _, _, _, _, _⟩ :: _) _ _; refine walk1_t (op_pickY rfl rfl rfl rfl (by first | exact decide_eq_true (by omega) | exact decide_eq_false (by omega) | rfl | (show _ = true; with_reducible assumption) | (show _ = false; with_reducible assumption) | (simp <;> fail) | omega) rfl) ?_)) | refine go1 ?_ | refine end_block_other rfl ?_ | refine end_scope (fun _ h => by cases h) ?_ | (refine walk_endD ?_ ?_; (· kernel_rfl)) | refine tri_yesA rfl ?_ | refine tri_noA rfl ?_ | refine tri_trueA rfl ?_ | refine tri_falseA rfl ?_)
                  exact nx2 _ hno h2 (by exact ent_keep (by repeat (first | exact hasT_nil | refine hasT_cons rfl ?_ | refine hasT_eq rfl (svi (by omega)) ?_)) (by repeat (first | exact hasR_nil | refine hasR_cons rfl ?_)))
                by_cases hn : N < 0
                · have hno : ¬ goodF lo hi o d i (sideF lo hi o i s) := fun h => absurd (hg.1 h).2.1 (by omega)
                  clear hg
                  repeat (first | (show Walk1 _ _ _ (_ :: _) _ _; first | (show Walk1 _ _ _ (⟨_, _, _, _, _, some _⟩ :: _) _ _; refine walk1_yes rfl rfl (by first | exact decide_eq_true (by omega) | exact decide_eq_false (by omega) | rfl | (show _ = true; with_reducible assumption) | (show _ = false; with_reducible assumption) | (simp <;> fail) | omega) ?_) | (show Walk1 _ _ _ (⟨_, .move _, _, _, _, _⟩ :: _) _ _; refine walk1_t (op_move rfl rfl rfl rfl) ?_) | (show Walk1 _ _ _ (⟨_, .assign _, _, _, _, _⟩ :: _) _ _; refine walk1_t (op_assign rfl rfl rfl rfl) ?_) | (show Walk1 _ _ _ (⟨_, .binOp .add _ _ _ _, _, _, _, _⟩ :: _) _ _; refine walk1_t (op_addN rfl rfl rfl (by first | exact evN_const rfl | exact rfl) (by first | exact evN_const rfl | exact rfl) (by omega)) ?_) | (show Walk1 _ _ _ (⟨_, .binOp .lss _ _ _ _, _, _, _, _⟩ :: _) _ _; refine walk1_t (op_ltI rfl rfl rfl rfl rfl) ?_) | (show Walk1 _ _ _ (⟨_, .binOp .eql _ _ _ _, _, _, _, _⟩ :: _) _ _; refine walk1_t (op_eqI rfl rfl rfl rfl rfl) ?_) | (show Walk1 _ _ _ (⟨_, .pick _ _ _, _, _, _, _⟩ :: _) _ _; refine walk1_t (op_pickN rfl rfl rfl rfl (by first | exact decide_eq_true (by omega) | exact decide_eq_false (by omega) | rfl | (show _ = true; with_reducible assumption) | (show _ = false; with_reducible assumption) | (simp <;> fail) | omega) rfl) ?_)) | refine go1 ?_ | refine end_block_other rfl ?_ | refine end_scope (fun _ h => by cases h) ?_ | (refine walk_endD ?_ ?_; (· kernel_rfl)) | refine tri_yesA rfl ?_ | refine tri_noA rfl ?_ | refine tri_trueA rfl ?_ | refine tri_falseA rfl ?_)
                  exact nx2 _ hno h2 (by exact ent_keep (by repeat (first | exact hasT_nil | refine hasT_cons rfl ?_ | refine hasT_eq rfl (svi (by omega)) ?_)) (by repeat (first | exact hasR_nil | refine hasR_cons rfl ?_)))
                repeat (first | (show Walk1 _ _ _ (_ :: _) _ _; first | (show Walk1 _ _ _ (⟨_, _, _, _, _, some _⟩ :: _) _ _; refine walk1_yes rfl rfl (by first | exact decide_eq_true (by omega) | exact decide_eq_false (by omega) | rfl | (show _ = true; with_reducible assumption) | (show _ = false; with_reducible assumption) | (simp <;> fail) | omega) ?_) | (show Walk1 _ _ _ (⟨_, .move _, _, _, _, _⟩ :: _) _ _; refine walk1_t (op_move rfl rfl rfl rfl) ?_) | (show Walk1 _ _ _ (⟨_, .assign _, _, _, _, _⟩ :: _) _ _; first | refine walk1_t (op_assignN rfl rfl rfl rfl) ?_ | refine walk1_t (op_assign rfl rfl rfl rfl) ?_) | (show Walk1 _ _ _ (⟨_, .binOp .lss _ _ _ _, _, _, _, _⟩ :: _) _ _; refine walk1_t (op_ltI rfl rfl rfl rfl rfl) ?_) | (show Walk1 _ _ _ (⟨_, .binOp .eql _ _ _ _, _, _, _, _⟩ :: _) _ _; refine walk1_t (op_eqI rfl rfl rfl rfl rfl) ?_) | (show Walk1 _ _ _ (⟨_, .pick _ _ _, _, _, _, _⟩ :: _) _ _; refine walk1_t (op_pickN rfl rfl rfl rfl (by first | exact decide_eq_true (by omega) | exact decide_eq_false (by omega) | rfl | (show _ = true; with_reducible assumption) | (show _ = false; with_reducible assumption) | (simp <;> fail) | omega) rfl) ?_)) | refine go1 ?_ | refine end_block_other rfl ?_ | refine end_scope (fun _ h => by cases h) ?_ | (refine walk_endD ?_ ?_; (· kernel_rfl)) | refine tri_yesA rfl ?_ | refine tri_noA rfl ?_ | refine tri_trueA rfl ?_ | refine tri_falseA rfl ?_)
                refine tri_loop (X := Nat × Bool) (fun x => ⟨[(20, SV.c (.int .i64 ((x.1 : Nat) : Int))), (19, .c (.bool x.2)), (18, .c (.int .i64 W)), (17, .c (.int .i64 N)), (16, SV.c (.int .i64 ((s : Nat) : Int))), (15, SV.c (.int .i64 ((i : Nat) : Int))), (9, .s 28 0 3 3), (10, .s 35 0 3 3), (11, .s 42 0 3 3), (12, .s 49 0 3 3), (8, .c (.bool false))], [(28, some (.blk 28 3 (.c LC))), (35, some (.blk 35 3 (.c HC))), (42, some (.blk 42 3 (.c OC))), (49, some (.blk 49 3 (.c DC)))]⟩)
                  (fun x => x.1 ≤ 3 ∧ (x.2 = true ↔ ∀ k, k < x.1 → A k * W ≤ O k * W + D k * N ∧ O k * W + D k * N ≤ B k * W)) (fun x => 3 - x.1) (0, true) ⟨by omega, ⟨fun _ k hk => by omega, fun _ => rfl⟩⟩ (by exact ent_keep (by repeat (first | exact hasT_nil | refine hasT_cons rfl ?_ | refine hasT_eq rfl (svi (by omega)) ?_)) (by repeat (first | exact hasR_nil | refine hasR_cons rfl ?_))) ?_
                rintro ⟨k, c⟩ ⟨hk, hc⟩ K3 next3
                dsimp only at *
                by_cases hk3 : k < 3
                · have ka := gA k hk3
                  have kb := gB k hk3
                  have ko := gO k hk3
                  have kd := gD k hk3
                  have kb1 := hAB k hk3
                  have kb2 := hmb k hk3
                  have p1 := small_mul (a := O k) (b := W) (by omega) bW
                  have p2 := small_mul (a := D k) (b := N) (by omega) bN
                  have p3 := small_mul (a := A k) (b := W) (by omega) bW
                  have p4 := small_mul (a := B k) (b := W) (by omega) bW
                  have nx3 : ∀ (S' : St) (c' : Bool), (c' = true ↔ c = true ∧ A k * W ≤ O k * W + D k * N ∧ O k * W + D k * N ≤ B k * W) → Ents _ S' _ → _ := fun S' c' hb => next3 S' (k + 1, c') ⟨by omega, by
                    rw [hb, hc]
                    constructor
                    · rintro ⟨q1, q2⟩ j hj
                      rcases Nat.lt_succ_iff_lt_or_eq.1 hj with h | rfl
                      · exact q1 j h
                      · exact q2
                    · intro q
                      exact ⟨fun j hj => q j (by omega), q k (by omega)⟩⟩ (by show 3 - (k + 1) < 3 - k; omega)
                  dsimp only at nx3
                  clear next3 hc nx nx2 hng hng2 hg hRf gA gB gO gD hAB hmb
                  generalize A k = a2 at *
                  generalize B k = bb2 at *
                  generalize O k = o2 at *
                  generalize D k = d2 at *
                  clear hai hbi hoi hdi hLA hLB hLO hLD
                  cases c with
                  | false =>
                    repeat (first | (show Walk1 _ _ _ (_ :: _) _ _; first | (show Walk1 _ _ _ (⟨_, _, _, _, _, some _⟩ :: _) _ _; refine walk1_no rfl rfl (by first | exact decide_eq_true (by omega) | exact decide_eq_false (by omega) | rfl | (show _ = true; with_reducible assumption) | (show _ = false; with_reducible assumption) | (simp <;> fail) | omega) rfl ?_) | (show Walk1 _ _ _ (⟨_, .move _, _, _, _, _⟩ :: _) _ _; refine walk1_t (op_move rfl rfl rfl rfl) ?_) | (show Walk1 _ _ _ (⟨_, .assign _, _, _, _, _⟩ :: _) _ _; refine walk1_t (op_assign rfl rfl rfl rfl) ?_) | (show Walk1 _ _ _ (⟨_, .binOp .add _ _ _ _, _, _, _, _⟩ :: _) _ _; refine walk1_t (op_addN rfl rfl rfl (by first | exact evN_const rfl | exact rfl) (by first | exact evN_const rfl | exact rfl) (by omega)) ?_) | (show Walk1 _ _ _ (⟨_, .binOp .lss _ _ _ _, _, _, _, _⟩ :: _) _ _; refine walk1_t (op_ltN rfl rfl rfl (by first | exact evN_const rfl | exact rfl) (by first | exact evN_const rfl | exact rfl)) ?_) | (show Walk1 _ _ _ (⟨_, .pick _ _ _, _, _, _, _⟩ :: _) _ _; refine walk1_t (op_pickN rfl rfl rfl rfl (by first | exact decide_eq_true (by omega) | exact decide_eq_false (by omega) | rfl | (show _ = true; with_reducible assumption) | (show _ = false; with_reducible assumption) | (simp <;> fail) | omega) rfl) ?_)) | (show WalkTo _ _ _ _ (_ :: _) _ _ _; first | (show WalkTo _ _ _ _ (⟨_, .move _, _, _, _, _⟩ :: _) _ _ _; refine walk_t (op_move rfl rfl rfl rfl) ?_) | (show WalkTo _ _ _ _ (⟨_, .assign _, _, _, _, _⟩ :: _) _ _ _; refine walk_t (op_assign rfl rfl rfl rfl) ?_) | (show WalkTo _ _ _ _ (⟨_, .binOp .add _ _ _ _, _, _, _, _⟩ :: _) _ _ _; refine walk_t (op_addI rfl rfl rfl rfl rfl (by omega)) ?_) | (show WalkTo _ _ _ _ (⟨_, .binOp .mul _ _ _ _, _, _, _, _⟩ :: _) _ _ _; refine walk_t (op_mulI rfl rfl rfl rfl rfl (by omega)) ?_) | (show WalkTo _ _ _ _ (⟨_, .indexAddr _ _ _, _, _, _, _⟩ :: _) _ _ _; refine walk_t (op_idxS rfl rfl rfl rfl (by first | exact evK_const rfl | exact evK_tmp rfl) rfl rfl (by first | omega | decide) off_one) ?_) | (show WalkTo _ _ _ _ (⟨_, .load _ _, _, _, _, _⟩ :: _) _ _ _; refine walk_t (op_load rfl rfl rfl rfl rfl rfl rfl (ld_any (by with_reducible assumption))) ?_)) | refine go1 ?_ | refine end_block_other rfl ?_ | refine end_scope (fun _ h => by cases h) ?_ | (refine walk_endD ?_ ?_; (· kernel_rfl)) | refine tri_yesA rfl ?_ | refine tri_noA rfl ?_ | refine tri_trueA rfl ?_ | refine tri_falseA rfl ?_)
                    exact nx3 _ false (by simp) (by exact ent_keep (by repeat (first | exact hasT_nil | refine hasT_cons rfl ?_ | refine hasT_eq rfl (svi (by omega)) ?_)) (by repeat (first | exact hasR_nil | refine hasR_cons rfl ?_)))
                  | true =>
                    by_cases t1 : o2 * W + d2 * N ≥ a2 * W
                    · repeat (first | (show Walk1 _ _ _ (_ :: _) _ _; first | (show Walk1 _ _ _ (⟨_, _, _, _, _, some _⟩ :: _) _ _; refine walk1_yes rfl rfl (by first | exact decide_eq_true (by omega) | exact decide_eq_false (by omega) | rfl | (show _ = true; with_reducible assumption) | (show _ = false; with_reducible assumption) | (simp <;> fail) | omega) ?_) | (show Walk1 _ _ _ (⟨_, .move _, _, _, _, _⟩ :: _) _ _; refine walk1_t (op_move rfl rfl rfl rfl) ?_) | (show Walk1 _ _ _ (⟨_, .assign _, _, _, _, _⟩ :: _) _ _; refine walk1_t (op_assign rfl rfl rfl rfl) ?_) | (show Walk1 _ _ _ (⟨_, .binOp .add _ _ _ _, _, _, _, _⟩ :: _) _ _; refine walk1_t (op_addN rfl rfl rfl (by first | exact evN_const rfl | exact rfl) (by first | exact evN_const rfl | exact rfl) (by omega)) ?_) | (show Walk1 _ _ _ (⟨_, .binOp .mul _ _ _ _, _, _, _, _⟩ :: _) _ _; refine walk1_t (op_mulI rfl rfl rfl rfl rfl (by omega)) ?_) | (show Walk1 _ _ _ (⟨_, .binOp .lss _ _ _ _, _, _, _, _⟩ :: _) _ _; refine walk1_t (op_ltN rfl rfl rfl (by first | exact evN_const rfl | exact rfl) (by first | exact evN_const rfl | exact rfl)) ?_) | (show Walk1 _ _ _ (⟨_, .binOp .leq _ _ _ _, _, _, _, _⟩ :: _) _ _; refine walk1_t (op_leI rfl rfl rfl rfl rfl) ?_) | (show Walk1 _ _ _ (⟨_, .binOp .geq _ _ _ _, _, _, _, _⟩ :: _) _ _; refine walk1_t (op_geI rfl rfl rfl rfl rfl) ?_) | (show Walk1 _ _ _ (⟨_, .pick _ _ _, _, _, _, _⟩ :: _) _ _; refine walk1_t (op_pickY rfl rfl rfl rfl (by first | exact decide_eq_true (by omega) | exact decide_eq_false (by omega) | rfl | (show _ = true; with_reducible assumption) | (show _ = false; with_reducible assumption) | (simp <;> fail) | omega) rfl) ?_) | (show Walk1 _ _ _ (⟨_, .indexAddr _ _ _, _, _, _, _⟩ :: _) _ _; refine walk1_t (op_idxS rfl rfl rfl rfl (by first | exact evK_const rfl | exact evK_tmp rfl) rfl rfl (by first | omega | decide) off_one) ?_) | (show Walk1 _ _ _ (⟨_, .load _ _, _, _, _, _⟩ :: _) _ _; refine walk1_t (op_load rfl rfl rfl rfl rfl rfl rfl (ld_any (by with_reducible assumption))) ?_)) | (show WalkTo _ _ _ _ (_ :: _) _ _ _; first | (show WalkTo _ _ _ _ (⟨_, .move _, _, _, _, _⟩ :: _) _ _ _; refine walk_t (op_move rfl rfl rfl rfl) ?_) | (show WalkTo _ _ _ _ (⟨_, .assign _, _, _, _, _⟩ :: _) _ _ _; refine walk_t (op_assign rfl rfl rfl rfl) ?_) | (show WalkTo _ _ _ _ (⟨_, .binOp .add _ _ _ _, _, _, _, _⟩ :: _) _ _ _; refine walk_t (op_addI rfl rfl rfl rfl rfl (by omega)) ?_) | (show WalkTo _ _ _ _ (⟨_, .binOp .mul _ _ _ _, _, _, _, _⟩ :: _) _ _ _; refine walk_t (op_mulI rfl rfl rfl rfl rfl (by omega)) ?_) | (show WalkTo _ _ _ _ (⟨_, .indexAddr _ _ _, _, _, _, _⟩ :: _) _ _ _; refine walk_t (op_idxS rfl rfl rfl rfl (by first | exact evK_const rfl | exact evK_tmp rfl) rfl rfl (by first | omega | decide) off_one) ?_) | (show WalkTo _ _ _ _ (⟨_, .load _ _, _, _, _, _⟩ :: _) _ _ _; refine walk_t (op_load rfl rfl rfl rfl rfl rfl rfl (ld_any (by with_reducible assumption))) ?_)) | refine go1 ?_ | refine end_block_other rfl ?_ | refine end_scope (fun _ h => by cases h) ?_ | (refine walk_endD ?_ ?_; (· kernel_rfl)) | refine tri_yesA rfl ?_ | refine tri_noA rfl ?_ | refine tri_trueA rfl ?_ | refine tri_falseA rfl ?_)
                      exact nx3 _ (decide (o2 * W + d2 * N ≤ bb2 * W)) (by rw [decide_eq_true_eq]; exact ⟨fun h => ⟨rfl, t1, h⟩, fun h => h.2.2⟩) (by exact ent_keep (by repeat (first | exact hasT_nil | refine hasT_cons rfl ?_ | refine hasT_eq rfl (svi (by omega)) ?_)) (by repeat (first | exact hasR_nil | refine hasR_cons rfl ?_)))
                    · repeat (first | (show Walk1 _ _ _ (_ :: _) _ _; first | (show Walk1 _ _ _ (⟨_, _, _, _, _, some _⟩ :: _) _ _; first | refine walk1_yes rfl rfl (by first | exact decide_eq_true (by omega) | exact decide_eq_false (by omega) | rfl | (show _ = true; with_reducible assumption) | (show _ = false; with_reducible assumption) | (simp <;> fail) | omega) ?_ | refine walk1_no rfl rfl (by first | exact decide_eq_true (by omega) | exact decide_eq_false (by omega) | rfl | (show _ = true; with_reducible assumption) | (show _ = false; with_reducible assumption) | (simp <;> fail) | omega) rfl ?_) | (show Walk1 _ _ _ (⟨_, .move _, _, _, _, _⟩ :: _) _ _; refine walk1_t (op_move rfl rfl rfl rfl) ?_) | (show Walk1 _ _ _ (⟨_, .assign _, _, _, _, _⟩ :: _) _ _; refine walk1_t (op_assign rfl rfl rfl rfl) ?_) | (show Walk1 _ _ _ (⟨_, .binOp .add _ _ _ _, _, _, _, _⟩ :: _) _ _; refine walk1_t (op_addN rfl rfl rfl (by first | exact evN_const rfl | exact rfl) (by first | exact evN_const rfl | exact rfl) (by omega)) ?_) | (show Walk1 _ _ _ (⟨_, .binOp .mul _ _ _ _, _, _, _, _⟩ :: _) _ _; refine walk1_t (op_mulI rfl rfl rfl rfl rfl (by omega)) ?_) | (show Walk1 _ _ _ (⟨_, .binOp .lss _ _ _ _, _, _, _, _⟩ :: _) _ _; refine walk1_t (op_ltN rfl rfl rfl (by first | exact evN_const rfl | exact rfl) (by first | exact evN_const rfl | exact rfl)) ?_) | (show Walk1 _ _ _ (⟨_, .binOp .geq _ _ _ _, _, _, _, _⟩ :: _) _ _; refine walk1_t (op_geI rfl rfl rfl rfl rfl) ?_) | (show Walk1 _ _ _ (⟨_, .pick _ _ _, _, _, _, _⟩ :: _) _ _; first | refine walk1_t (op_pickY rfl rfl rfl rfl (by first | exact decide_eq_true (by omega) | exact decide_eq_false (by omega) | rfl | (show _ = true; with_reducible assumption) | (show _ = false; with_reducible assumption) | (simp <;> fail) | omega) rfl) ?_ | refine walk1_t (op_pickN rfl rfl rfl rfl (by first | exact decide_eq_true (by omega) | exact decide_eq_false (by omega) | rfl | (show _ = true; with_reducible assumption) | (show _ = false; with_reducible assumption) | (simp <;> fail) | omega) rfl) ?_) | (show Walk1 _ _ _ (⟨_, .indexAddr _ _ _, _, _, _, _⟩ :: _) _ _; refine walk1_t (op_idxS rfl rfl rfl rfl (by first | exact evK_const rfl | exact evK_tmp rfl) rfl rfl (by first | omega | decide) off_one) ?_) | (show Walk1 _ _ _ (⟨_, .load _ _, _, _, _, _⟩ :: _) _ _; refine walk1_t (op_load rfl rfl rfl rfl rfl rfl rfl (ld_any (by with_reducible assumption))) ?_)) | (show WalkTo _ _ _ _ (_ :: _) _ _ _; first | (show WalkTo _ _ _ _ (⟨_, .move _, _, _, _, _⟩ :: _) _ _ _; refine walk_t (op_move rfl rfl rfl rfl) ?_) | (show WalkTo _ _ _ _ (⟨_, .assign _, _, _, _, _⟩ :: _) _ _ _; refine walk_t (op_assign rfl rfl rfl rfl) ?_) | (show WalkTo _ _ _ _ (⟨_, .binOp .add _ _ _ _, _, _, _, _⟩ :: _) _ _ _; refine walk_t (op_addI rfl rfl rfl rfl rfl (by omega)) ?_) | (show WalkTo _ _ _ _ (⟨_, .binOp .mul _ _ _ _, _, _, _, _⟩ :: _) _ _ _; refine walk_t (op_mulI rfl rfl rfl rfl rfl (by omega)) ?_) | (show WalkTo _ _ _ _ (⟨_, .indexAddr _ _ _, _, _, _, _⟩ :: _) _ _ _; refine walk_t (op_idxS rfl rfl rfl rfl (by first | exact evK_const rfl | exact evK_tmp rfl) rfl rfl (by first | omega | decide) off_one) ?_) | (show WalkTo _ _ _ _ (⟨_, .load _ _, _, _, _, _⟩ :: _) _ _ _; refine walk_t (op_load rfl rfl rfl rfl rfl rfl rfl (ld_any (by with_reducible assumption))) ?_)) | refine go1 ?_ | refine end_block_other rfl ?_ | refine end_scope (fun _ h => by cases h) ?_ | (refine walk_endD ?_ ?_; (· kernel_rfl)) | refine tri_yesA rfl ?_ | refine tri_noA rfl ?_ | refine tri_trueA rfl ?_ | refine tri_falseA rfl ?_)
                      exact nx3 _ false ⟨fun h => (by cases h), fun h => absurd h.2.1 t1⟩ (by exact ent_keep (by repeat (first | exact hasT_nil | refine hasT_cons rfl ?_ | refine hasT_eq rfl (svi (by omega)) ?_)) (by repeat (first | exact hasR_nil | refine hasR_cons rfl ?_)))
                · obtain rfl : k = 3 := by omega
                  cases c with
                  | false =>
                    have hno : ¬ goodF lo hi o d i (sideF lo hi o i s) := fun h => absurd (hc.2 (hg.1 h).2.2) (by decide)
                    clear hc hg next3
                    repeat (first | (show Walk1 _ _ _ (_ :: _) _ _; first | (show Walk1 _ _ _ (⟨_, .move _, _, _, _, _⟩ :: _) _ _; refine walk1_t (op_move rfl rfl rfl rfl) ?_) | (show Walk1 _ _ _ (⟨_, .assign _, _, _, _, _⟩ :: _) _ _; refine walk1_t (op_assign rfl rfl rfl rfl) ?_) | (show Walk1 _ _ _ (⟨_, .binOp .add _ _ _ _, _, _, _, _⟩ :: _) _ _; refine walk1_t (op_addN rfl rfl rfl (by first | exact evN_const rfl | exact rfl) (by first | exact evN_const rfl | exact rfl) (by omega)) ?_) | (show Walk1 _ _ _ (⟨_, .binOp .lss _ _ _ _, _, _, _, _⟩ :: _) _ _; refine walk1_t (op_ltN rfl rfl rfl (by first | exact evN_const rfl | exact rfl) (by first | exact evN_const rfl | exact rfl)) ?_)) | refine go1 ?_ | refine end_block_other rfl ?_ | refine end_scope (fun _ h => by cases h) ?_ | (refine walk_endD ?_ ?_; (· kernel_rfl)) | refine tri_yesA rfl ?_ | refine tri_noA rfl ?_ | refine tri_trueA rfl ?_ | refine tri_falseA rfl ?_)
                    exact nx2 _ hno h2 (by exact ent_keep (by repeat (first | exact hasT_nil | refine hasT_cons rfl ?_ | refine hasT_eq rfl (svi (by omega)) ?_)) (by repeat (first | exact hasR_nil | refine hasR_cons rfl ?_)))
                  | true =>
                    have hr : R = true := hRf.2 ⟨i, h3, s, h2, hg.2 ⟨hw, by omega, hc.1 rfl⟩⟩
                    rw [hr]
                    clear hc hg next3 hRf hr
                    repeat (first | (show Walk1 _ _ _ (_ :: _) _ _; first | (show Walk1 _ _ _ (⟨_, .move _, _, _, _, _⟩ :: _) _ _; refine walk1_t (op_move rfl rfl rfl rfl) ?_) | (show Walk1 _ _ _ (⟨_, .assign _, _, _, _, _⟩ :: _) _ _; refine walk1_t (op_assign rfl rfl rfl rfl) ?_) | (show Walk1 _ _ _ (⟨_, .binOp .lss _ _ _ _, _, _, _, _⟩ :: _) _ _; refine walk1_t (op_ltN rfl rfl rfl (by first | exact evN_const rfl | exact rfl) (by first | exact evN_const rfl | exact rfl)) ?_)) | refine go1 ?_ | refine end_block_other rfl ?_ | refine end_scope (fun _ h => by cases h) ?_ | (refine walk_endD ?_ ?_; (· kernel_rfl)) | refine tri_yesA rfl ?_ | refine tri_noA rfl ?_ | refine tri_trueA rfl ?_ | refine tri_falseA rfl ?_)
                    refine end_ret (.c (.bool true)) (res_tmp rfl rfl) ?_
                    exact fin_below fun _ => rfl
              · intro Q' g1 g2
                clear nx nx2 hng hng2 hGF hRf hAB hmb
                by_cases hd : dd < 0
                · repeat (first | (show Walk1 _ _ _ (_ :: _) _ _; first | (show Walk1 _ _ _ (⟨_, .move _, _, _, _, _⟩ :: _) _ _; refine walk1_t (op_move rfl rfl rfl rfl) ?_) | (show Walk1 _ _ _ (⟨_, .assign _, _, _, _, _⟩ :: _) _ _; refine walk1_t (op_assign rfl rfl rfl rfl) ?_) | (show Walk1 _ _ _ (⟨_, .unOp _ _ _, _, _, _, _⟩ :: _) _ _; refine walk1_t (op_negI rfl rfl rfl rfl (by omega)) ?_)) | refine go1 ?_ | refine end_block_other rfl ?_ | refine end_scope (fun _ h => by cases h) ?_ | (refine walk_endD ?_ ?_; (· kernel_rfl)) | refine tri_yesA rfl ?_ | refine tri_noA rfl ?_ | refine tri_trueA rfl ?_ | refine tri_falseA rfl ?_)
                  exact g1 _ (-m, -dd) ⟨(if_pos hd).symm, (if_pos hd).symm⟩ (by exact ent_keep (by repeat (first | exact hasT_nil | refine hasT_cons rfl ?_ | refine hasT_eq rfl (svi (by omega)) ?_)) (by repeat (first | exact hasR_nil | refine hasR_cons rfl ?_)))
                · repeat (first | refine go1 ?_ | refine end_block_other rfl ?_ | refine end_scope (fun _ h => by cases h) ?_ | (refine walk_endD ?_ ?_; (· kernel_rfl)) | refine tri_yesA rfl ?_ | refine tri_noA rfl ?_ | refine tri_trueA rfl ?_ | refine tri_falseA rfl ?_)
                  exact g1 _ (m, dd) ⟨(if_neg hd).symm, (if_neg hd).symm⟩ (by exact ent_keep (by repeat (first | exact hasT_nil | refine hasT_cons rfl ?_ | refine hasT_eq rfl (svi (by omega)) ?_)) (by repeat (first | exact hasR_nil | refine hasR_cons rfl ?_)))
            · intro Q' g1 g2
              clear nx nx2 hng hng2 hGF hRf hAB hmb
              have h01 : s = 0 ∨ s = 1 := by omega
              rcases h01 with rfl | rfl
              · repeat (first | refine go1 ?_ | refine end_block_other rfl ?_ | refine end_scope (fun _ h => by cases h) ?_ | (refine walk_endD ?_ ?_; (· kernel_rfl)) | refine tri_yesA rfl ?_ | refine tri_noA rfl ?_ | refine tri_trueA rfl ?_ | refine tri_falseA rfl ?_)
                exact g1 _ (a - oo) (if_pos rfl).symm (by exact ent_keep (by repeat (first | exact hasT_nil | refine hasT_cons rfl ?_ | refine hasT_eq rfl (svi (by omega)) ?_)) (by repeat (first | exact hasR_nil | refine hasR_cons rfl ?_)))
              · repeat (first | (show WalkTo _ _ _ _ (_ :: _) _ _ _; first | (show WalkTo _ _ _ _ (⟨_, .move _, _, _, _, _⟩ :: _) _ _ _; refine walk_t (op_move rfl rfl rfl rfl) ?_) | (show WalkTo _ _ _ _ (⟨_, .assign _, _, _, _, _⟩ :: _) _ _ _; refine walk_t (op_assign rfl rfl rfl rfl) ?_) | (show WalkTo _ _ _ _ (⟨_, .binOp .sub _ _ _ _, _, _, _, _⟩ :: _) _ _ _; refine walk_t (op_subI rfl rfl rfl rfl rfl (by omega)) ?_) | (show WalkTo _ _ _ _ (⟨_, .indexAddr _ _ _, _, _, _, _⟩ :: _) _ _ _; refine walk_t (op_idxS rfl rfl rfl rfl (by first | exact evK_const rfl | exact evK_tmp rfl) rfl rfl (by first | omega | decide) off_one) ?_) | (show WalkTo _ _ _ _ (⟨_, .load _ _, _, _, _, _⟩ :: _) _ _ _; refine walk_t (op_load rfl rfl rfl rfl rfl rfl rfl (ld_any (by with_reducible assumption))) ?_)) | refine go1 ?_ | refine end_block_other rfl ?_ | refine end_scope (fun _ h => by cases h) ?_ | (refine walk_endD ?_ ?_; (· kernel_rfl)) | refine tri_yesA rfl ?_ | refine tri_noA rfl ?_ | refine tri_trueA rfl ?_ | refine tri_falseA rfl ?_)
                exact g1 _ (bb - oo) (if_neg (by decide)).symm (by exact ent_keep (by repeat (first | exact hasT_nil | refine hasT_cons rfl ?_ | refine hasT_eq rfl (svi (by omega)) ?_)) (by repeat (first | exact hasR_nil | refine hasR_cons rfl ?_)))
          · repeat (first | (show Walk1 _ _ _ (_ :: _) _ _; first | (show Walk1 _ _ _ (⟨_, .move _, _, _, _, _⟩ :: _) _ _; refine walk1_t (op_move rfl rfl rfl rfl) ?_) | (show Walk1 _ _ _ (⟨_, .assign _, _, _, _, _⟩ :: _) _ _; refine walk1_t (op_assign rfl rfl rfl rfl) ?_) | (show Walk1 _ _ _ (⟨_, .binOp .add _ _ _ _, _, _, _, _⟩ :: _) _ _; refine walk1_t (op_addN rfl rfl rfl (by first | exact evN_const rfl | exact rfl) (by first | exact evN_const rfl | exact rfl) (by omega)) ?_) | (show Walk1 _ _ _ (⟨_, .binOp .lss _ _ _ _, _, _, _, _⟩ :: _) _ _; refine walk1_t (op_ltN rfl rfl rfl (by first | exact evN_const rfl | exact rfl) (by first | exact evN_const rfl | exact rfl)) ?_)) | refine go1 ?_ | refine end_block_other rfl ?_ | refine end_scope (fun _ h => by cases h) ?_ | (refine walk_endD ?_ ?_; (· kernel_rfl)) | refine tri_yesA rfl ?_ | refine tri_noA rfl ?_ | refine tri_trueA rfl ?_ | refine tri_falseA rfl ?_)
            exact nx _ (fun s hs => hng2 s hs) (by exact ent_keep (by repeat (first | exact hasT_nil | refine hasT_cons rfl ?_ | refine hasT_eq rfl (svi (by omega)) ?_)) (by repeat (first | exact hasR_nil | refine hasR_cons rfl ?_)))
        · obtain rfl : i = 3 := by omega
          have hr : R = false := by
            cases hRR : R with
            | false => rfl
            | true =>
              obtain ⟨i, hi, s, hs, hg⟩ := hRf.1 hRR
              exact absurd hg (hng i hi s hs)
          rw [hr]
          clear hr hRf hGF
          repeat (first | (show Walk1 _ _ _ (_ :: _) _ _; first | (show Walk1 _ _ _ (⟨_, .move _, _, _, _, _⟩ :: _) _ _; refine walk1_t (op_move rfl rfl rfl rfl) ?_) | (show Walk1 _ _ _ (⟨_, .assign _, _, _, _, _⟩ :: _) _ _; refine walk1_t (op_assign rfl rfl rfl rfl) ?_) | (show Walk1 _ _ _ (⟨_, .binOp .lss _ _ _ _, _, _, _, _⟩ :: _) _ _; refine walk1_t (op_ltN rfl rfl rfl (by first | exact evN_const rfl | exact rfl) (by first | exact evN_const rfl | exact rfl)) ?_)) | refine go1 ?_ | refine end_block_other rfl ?_ | refine end_scope (fun _ h => by cases h) ?_ | (refine walk_endD ?_ ?_; (· kernel_rfl)) | refine tri_yesA rfl ?_ | refine tri_noA rfl ?_ | refine tri_trueA rfl ?_ | refine tri_falseA rfl ?_)
          refine end_ret (.c (.bool false)) (res_tmp rfl rfl) ?_
          exact fin_below fun _ => rfl
end Go.Proofs.Ytmpnkknocfaciaa
