/- The two sides of a cut: what they hold, what they cost: walked. No condition. Where an order is cut: walked. No condition. -/
import Derived.Test.YtmpnkknocfaciaaBldAC
namespace Go.Proofs.Ytmpnkknocfaciaa
open Go.RowKit
set_option maxRecDepth 100000
set_option maxHeartbeats 1000000
def shT (a : Int) : Int := a.fdiv 1024
theorem op_shrT {C : Ctx} {ops : Array Oper} {S : St} {o : Oper} {x : Operand} {ty yt : TypeId} {a : Int} (ho : o.op = .binOp .shr ty x (.const (.int .u64 10)) yt) (hg : o.guard = none) (hd : dstB o.dst C.nt = true) (hx : S.ev x = some (.c (.int .i64 a))) : OpG C Try.prog ops o S ⟨opT x ++ [], [], dw o.dst (.c (.int .i64 (shT a))), [], []⟩ := by
  refine op_int2 (y := .const (.int .u64 10)) ho hg hd hx rfl fun w => ?_
  have := (run_shift (ty := ty) (k := .i64) (ky := .u64) (a := a) (n := 10) (w := w)).2
  rw [show ((10 : Nat) : Int) = 10 from rfl] at this
  rw [this]
  rfl
/-- What lies on one side of a cut: how many, and their box. -/
structure SideS where
  n : Int
  lo : P3
  hi : P3
def sideC (s : SideS) : Array Value := #[.int .i64 s.n, .int .i64 s.lo.x, .int .i64 s.lo.y, .int .i64 s.lo.z, .int .i64 s.hi.x, .int .i64 s.hi.y, .int .i64 s.hi.z]
def zS : SideS := ⟨0, zP, zP⟩
def andS (s : SideS) (n : Int) (lo hi : P3) : SideS := if n = 0 then s else if s.n > 0 then ⟨aW s.n n, (boxP [s.lo, lo]).1, (boxP [s.hi, hi]).2⟩ else ⟨aW s.n n, lo, hi⟩
def edgW (a b : Int) : Int := aW (shT (sW b a)) 1
def areaW (lo hi : P3) : Int := aW (aW (mW (edgW lo.x hi.x) (edgW lo.y hi.y)) (mW (edgW lo.y hi.y) (edgW lo.z hi.z))) (mW (edgW lo.z hi.z) (edgW lo.x hi.x))
def costS (s : SideS) : Int := if s.n = 0 then 1152921504606846976 else mW s.n (areaW s.lo s.hi)
attribute [local irreducible] Calls Walk1 WalkTo Tri EndA
theorem area_any (lo hi : P3) (w : World) : Calls Try.prog 100 #[.agg lo.c, .agg hi.c] w fun e w' => e = .returned (.int .i64 (areaW lo hi)) ∧ Below w.heap.size w w' := by
  obtain ⟨a, b, c⟩ := lo
  obtain ⟨x, y, z⟩ := hi
  unfold areaW edgW
  simp only [P3.c]
  refine calls_tri Try.func100 rfl Try.ntmps100 rfl ?_
  repeat (first | (show Walk1 _ _ _ (_ :: _) _ _; first | (show Walk1 _ _ _ (⟨_, .move _, _, _, _, _⟩ :: _) _ _; refine walk1_t (op_move rfl rfl rfl rfl) ?_) | (show Walk1 _ _ _ (⟨_, .assign _, _, _, _, _⟩ :: _) _ _; first | refine walk1_t (op_assignN rfl rfl rfl rfl) ?_ | refine walk1_t (op_assign rfl rfl rfl rfl) ?_) | (show Walk1 _ _ _ (⟨_, .binOp .add _ _ _ _, _, _, _, _⟩ :: _) _ _; refine walk1_t (op_addW rfl rfl rfl rfl rfl) ?_) | (show Walk1 _ _ _ (⟨_, .binOp .mul _ _ _ _, _, _, _, _⟩ :: _) _ _; refine walk1_t (op_mulW rfl rfl rfl rfl rfl) ?_) | (show Walk1 _ _ _ (⟨_, .box _ _, _, _, _, _⟩ :: _) _ _; refine walk1_n (op_box rfl rfl rfl rfl rfl) (by kernel_rfl) ?_)) | (show WalkTo _ _ _ _ (_ :: _) _ _ _; first | (show WalkTo _ _ _ _ (⟨_, .assign _, _, _, _, _⟩ :: _) _ _ _; refine walk_t (op_assign rfl rfl rfl rfl) ?_) | (show WalkTo _ _ _ _ (⟨_, .binOp .add _ _ _ _, _, _, _, _⟩ :: _) _ _ _; refine walk_t (op_addW rfl rfl rfl rfl rfl) ?_) | (show WalkTo _ _ _ _ (⟨_, .binOp .sub _ _ _ _, _, _, _, _⟩ :: _) _ _ _; refine walk_t (op_subW rfl rfl rfl rfl rfl) ?_) | (show WalkTo _ _ _ _ (⟨_, .binOp .shr _ _ _ _, _, _, _, _⟩ :: _) _ _ _; refine walk_t (op_shrT rfl rfl rfl rfl) ?_) | (show WalkTo _ _ _ _ (⟨_, .load _ _, _, _, _, _⟩ :: _) _ _ _; refine walk_t (op_load rfl rfl rfl rfl rfl rfl rfl) ?_) | (show WalkTo _ _ _ _ (⟨_, .fieldAddr _ _ _, _, _, _, _⟩ :: _) _ _ _; refine walk_t (op_fldT rfl rfl rfl rfl rfl rfl off_zero) ?_)) | refine go1 ?_ | refine end_block_other rfl ?_ | refine end_scope (fun _ h => by cases h) ?_ | (refine walk_endD ?_ ?_; (· kernel_rfl)) | refine tri_yesA rfl ?_ | refine tri_noA rfl ?_ | refine tri_trueA rfl ?_ | refine tri_falseA rfl ?_)
  refine end_ret _ (res_tmp rfl rfl) ?_
  exact fin_below fun _ => rfl
theorem sideCost_any (s : SideS) (w : World) : Calls Try.prog 95 #[.agg (sideC s)] w fun e w' => e = .returned (.int .i64 (costS s)) ∧ Below w.heap.size w w' := by
  obtain ⟨n, ⟨a, b, c⟩, ⟨x, y, z⟩⟩ := s
  have c1 := fun w => area_any ⟨a, b, c⟩ ⟨x, y, z⟩ w
  unfold costS
  dsimp only
  generalize areaW ⟨a, b, c⟩ ⟨x, y, z⟩ = A at *
  simp only [P3.c, sideC] at *
  by_cases h : n = 0
  · rw [if_pos h]
    refine calls_tri Try.func95 rfl Try.ntmps95 rfl ?_
    repeat (first | (show Walk1 _ _ _ (_ :: _) _ _; first | (show Walk1 _ _ _ (⟨_, .assign _, _, _, _, _⟩ :: _) _ _; refine walk1_t (op_assignN rfl rfl rfl rfl) ?_) | (show Walk1 _ _ _ (⟨_, .binOp .eql _ _ _ _, _, _, _, _⟩ :: _) _ _; refine walk1_t (op_eqI rfl rfl rfl rfl rfl) ?_) | (show Walk1 _ _ _ (⟨_, .load _ _, _, _, _, _⟩ :: _) _ _; refine walk1_t (op_load rfl rfl rfl rfl rfl rfl rfl) ?_) | (show Walk1 _ _ _ (⟨_, .box _ _, _, _, _, _⟩ :: _) _ _; refine walk1_n (op_box rfl rfl rfl rfl rfl) (by kernel_rfl) ?_) | (show Walk1 _ _ _ (⟨_, .fieldAddr _ _ _, _, _, _, _⟩ :: _) _ _; refine walk1_t (op_fldT rfl rfl rfl rfl rfl rfl off_zero) ?_)) | refine go1 ?_ | refine end_block_other rfl ?_ | refine end_scope (fun _ h => by cases h) ?_ | (refine walk_endD ?_ ?_; (· kernel_rfl)) | refine tri_yesA rfl ?_ | refine tri_noA rfl ?_ | refine tri_trueA rfl ?_ | refine tri_falseA rfl ?_)
    refine end_ret _ (res_tmp rfl rfl) ?_
    exact fin_below fun _ => rfl
  · rw [if_neg h]
    refine calls_tri Try.func95 rfl Try.ntmps95 rfl ?_
    repeat (first | (show Walk1 _ _ _ (_ :: _) _ _; first | (show Walk1 _ _ _ (⟨_, .assign _, _, _, _, _⟩ :: _) _ _; refine walk1_t (op_assignN rfl rfl rfl rfl) ?_) | (show Walk1 _ _ _ (⟨_, .binOp .eql _ _ _ _, _, _, _, _⟩ :: _) _ _; refine walk1_t (op_eqI rfl rfl rfl rfl rfl) ?_) | (show Walk1 _ _ _ (⟨_, .load _ _, _, _, _, _⟩ :: _) _ _; refine walk1_t (op_load rfl rfl rfl rfl rfl rfl rfl) ?_) | (show Walk1 _ _ _ (⟨_, .box _ _, _, _, _, _⟩ :: _) _ _; refine walk1_n (op_box rfl rfl rfl rfl rfl) (by kernel_rfl) ?_) | (show Walk1 _ _ _ (⟨_, .fieldAddr _ _ _, _, _, _, _⟩ :: _) _ _; refine walk1_t (op_fldT rfl rfl rfl rfl rfl rfl off_zero) ?_)) | (show WalkTo _ _ _ _ (_ :: _) _ _ _; first | (show WalkTo _ _ _ _ (⟨_, .assign _, _, _, _, _⟩ :: _) _ _ _; refine walk_t (op_assign rfl rfl rfl rfl) ?_) | (show WalkTo _ _ _ _ (⟨_, .binOp .mul _ _ _ _, _, _, _, _⟩ :: _) _ _ _; refine walk_t (op_mulW rfl rfl rfl rfl rfl) ?_) | (show WalkTo _ _ _ _ (⟨_, .load _ _, _, _, _, _⟩ :: _) _ _ _; first | refine walk_t (op_load rfl rfl rfl rfl rfl rfl rfl) ?_ | refine walk_t (op_loadsM rfl rfl rfl rfl rfl rfl rfl rfl) ?_) | (show WalkTo _ _ _ _ (⟨_, .fieldAddr _ _ _, _, _, _, _⟩ :: _) _ _ _; refine walk_t (op_fldT rfl rfl rfl rfl rfl rfl off_zero) ?_) | (show WalkTo _ _ _ _ (⟨_, .call ⟨.value (.func 100), _, _⟩, _, _, _, _⟩ :: _) _ _ _; ((first | refine walk_call rfl rfl rfl rfl (by repeat (first | exact evs_nil | apply evs_cons rfl)) rfl ?_ | refine walk_call0 rfl rfl rfl (by repeat (first | exact evs_nil | apply evs_cons rfl)) rfl ?_); refine ⟨_, fun e w => c1 w, ?_⟩))) | refine go1 ?_ | refine end_block_other rfl ?_ | refine end_scope (fun _ h => by cases h) ?_ | (refine walk_endD ?_ ?_; (· kernel_rfl)) | refine tri_yesA rfl ?_ | refine tri_noA rfl ?_ | refine tri_trueA rfl ?_ | refine tri_falseA rfl ?_)
    refine end_ret _ (res_tmp rfl rfl) ?_
    exact fin_below fun _ => rfl
theorem sideAnd_any (s : SideS) (n : Int) (lo hi : P3) (w : World) : Calls Try.prog 94 #[.agg (sideC s), .int .i64 n, .agg lo.c, .agg hi.c] w fun e w' => e = .returned (.agg (sideC (andS s n lo hi))) ∧ Below w.heap.size w w' := by
  have c1 := fun v w h => boxT_any v [s.lo, lo] w h (by simp)
  have c2 := fun v w h => boxT_any v [s.hi, hi] w h (by simp)
  unfold andS
  by_cases h : n = 0
  · rw [if_pos h]
    obtain ⟨m, ⟨a, b, c⟩, ⟨x, y, z⟩⟩ := s
    obtain ⟨p, q, r⟩ := lo
    obtain ⟨p', q', r'⟩ := hi
    simp only [P3.c, sideC] at *
    refine calls_tri Try.func94 rfl Try.ntmps94 rfl ?_
    repeat (first | (show Walk1 _ _ _ (_ :: _) _ _; first | (show Walk1 _ _ _ (⟨_, .move _, _, _, _, _⟩ :: _) _ _; refine walk1_t (op_move rfl rfl rfl rfl) ?_) | (show Walk1 _ _ _ (⟨_, .binOp .eql _ _ _ _, _, _, _, _⟩ :: _) _ _; refine walk1_t (op_eqI rfl rfl rfl rfl rfl) ?_) | (show Walk1 _ _ _ (⟨_, .load _ _, _, _, _, _⟩ :: _) _ _; refine walk1_t (op_loads rfl rfl rfl rfl rfl rfl rfl rfl) ?_) | (show Walk1 _ _ _ (⟨_, .store _ _ _, _, _, _, _⟩ :: _) _ _; refine walk1_b (op_stores rfl rfl rfl rfl rfl rfl rfl) ?_) | (show Walk1 _ _ _ (⟨_, .alloc _, _, _, _, _⟩ :: _) _ _; refine walk1_n (op_alloc rfl rfl rfl rfl rfl) (by kernel_rfl) ?_) | (show Walk1 _ _ _ (⟨_, .box _ _, _, _, _, _⟩ :: _) _ _; refine walk1_n (op_box rfl rfl rfl rfl rfl) (by kernel_rfl) ?_)) | refine go1 ?_ | refine end_block_other rfl ?_ | refine end_scope (fun _ h => by cases h) ?_ | (refine walk_endD ?_ ?_; (· kernel_rfl)) | refine tri_yesA rfl ?_ | refine tri_noA rfl ?_ | refine tri_trueA rfl ?_ | refine tri_falseA rfl ?_)
    refine end_ret (.c (.agg #[.int .i64 m, .int .i64 a, .int .i64 b, .int .i64 c, .int .i64 x, .int .i64 y, .int .i64 z])) (res_cells rfl rfl rfl rfl rfl rfl (fun _ => rfl) (fun _ => rfl)) ?_
    exact fin_below fun _ => rfl
  · rw [if_neg h]
    by_cases h2 : s.n > 0
    · rw [if_pos h2]
      generalize boxP [s.lo, lo] = F at *
      generalize boxP [s.hi, hi] = G at *
      obtain ⟨⟨g1, g2, g3⟩, ⟨g4, g5, g6⟩⟩ := F
      obtain ⟨⟨k1, k2, k3⟩, ⟨k4, k5, k6⟩⟩ := G
      obtain ⟨m, ⟨a, b, c⟩, ⟨x, y, z⟩⟩ := s
      obtain ⟨p, q, r⟩ := lo
      obtain ⟨p', q', r'⟩ := hi
      simp only [P3.c, sideC] at *
      refine calls_tri Try.func94 rfl Try.ntmps94 rfl ?_
      repeat (first | (show Walk1 _ _ _ (_ :: _) _ _; first | (show Walk1 _ _ _ (⟨_, .move _, _, _, _, _⟩ :: _) _ _; refine walk1_t (op_move rfl rfl rfl rfl) ?_) | (show Walk1 _ _ _ (⟨_, .binOp .add _ _ _ _, _, _, _, _⟩ :: _) _ _; refine walk1_t (op_addW rfl rfl rfl rfl rfl) ?_) | (show Walk1 _ _ _ (⟨_, .binOp .gtr _ _ _ _, _, _, _, _⟩ :: _) _ _; refine walk1_t (op_gtI rfl rfl rfl rfl rfl) ?_) | (show Walk1 _ _ _ (⟨_, .binOp .eql _ _ _ _, _, _, _, _⟩ :: _) _ _; refine walk1_t (op_eqI rfl rfl rfl rfl rfl) ?_) | (show Walk1 _ _ _ (⟨_, .load _ _, _, _, _, _⟩ :: _) _ _; first | refine walk1_t (op_load rfl rfl rfl rfl rfl rfl rfl) ?_ | refine walk1_t (op_loads rfl rfl rfl rfl rfl rfl rfl rfl) ?_ | refine walk1_t (op_loadsM rfl rfl rfl rfl rfl rfl rfl rfl) ?_) | (show Walk1 _ _ _ (⟨_, .store _ _ _, _, _, _, _⟩ :: _) _ _; first | refine walk1_b (op_stores rfl rfl rfl rfl rfl rfl rfl) ?_ | refine walk1_b (op_storesM rfl rfl rfl rfl rfl rfl rfl) ?_) | (show Walk1 _ _ _ (⟨_, .alloc _, _, _, _, _⟩ :: _) _ _; refine walk1_n (op_alloc rfl rfl rfl rfl rfl) (by kernel_rfl) ?_) | (show Walk1 _ _ _ (⟨_, .box _ _, _, _, _, _⟩ :: _) _ _; refine walk1_n (op_box rfl rfl rfl rfl rfl) (by kernel_rfl) ?_) | (show Walk1 _ _ _ (⟨_, .fieldAddr _ _ _, _, _, _, _⟩ :: _) _ _; refine walk1_t (op_fldT rfl rfl rfl rfl rfl rfl off_zero) ?_) | (show Walk1 _ _ _ (⟨_, .extract _ _, _, _, _, _⟩ :: _) _ _; first | refine walk1_t (op_ext0 rfl rfl rfl rfl) ?_ | refine walk1_t (op_ext1 rfl rfl rfl rfl) ?_) | (show Walk1 _ _ _ (⟨_, .build _ _, _, _, _, _⟩ :: _) _ _; refine walk1_t (op_buildS rfl rfl rfl rfl) ?_) | (show Walk1 _ _ _ (⟨_, .buildSlice _ 2 _, _, _, _, _⟩ :: _) _ _; refine walk1_n (op_bsliceP2 rfl rfl rfl rfl rfl rfl rfl rfl rfl rfl rfl rfl rfl) (by kernel_rfl) ?_) | (show Walk1 _ _ _ (⟨_, .call ⟨.value (.func 19), _, _⟩, _, _, _, _⟩ :: _) _ _; (refine walk1_callM rfl rfl rfl rfl (by repeat (first | exact evs_nil | apply evs_cons rfl)) rfl ?_; refine ⟨_, _, callM_1 (rdn_row (n := 19) rfl rfl) (fun e w h1 => c1 _ w h1), ?_⟩)) | (show Walk1 _ _ _ (⟨_, .call ⟨.value (.func 19), _, _⟩, _, _, _, _⟩ :: _) _ _; (refine walk1_callM rfl rfl rfl rfl (by repeat (first | exact evs_nil | apply evs_cons rfl)) rfl ?_; refine ⟨_, _, callM_1 (rdn_row (n := 27) rfl rfl) (fun e w h1 => c2 _ w h1), ?_⟩))) | refine go1 ?_ | refine end_block_other rfl ?_ | refine end_scope (fun _ h => by cases h) ?_ | (refine walk_endD ?_ ?_; (· kernel_rfl)) | refine tri_yesA rfl ?_ | refine tri_noA rfl ?_ | refine tri_trueA rfl ?_ | refine tri_falseA rfl ?_)
      refine end_ret (.c (.agg #[.int .i64 (aW m n), .int .i64 g1, .int .i64 g2, .int .i64 g3, .int .i64 k4, .int .i64 k5, .int .i64 k6])) (res_cells rfl rfl rfl rfl rfl rfl (fun _ => rfl) (fun _ => rfl)) ?_
      exact fin_below fun _ => rfl
    · rw [if_neg h2]
      obtain ⟨m, ⟨a, b, c⟩, ⟨x, y, z⟩⟩ := s
      obtain ⟨p, q, r⟩ := lo
      obtain ⟨p', q', r'⟩ := hi
      simp only [P3.c, sideC] at *
      refine calls_tri Try.func94 rfl Try.ntmps94 rfl ?_
      repeat (first | (show Walk1 _ _ _ (_ :: _) _ _; first | (show Walk1 _ _ _ (⟨_, .move _, _, _, _, _⟩ :: _) _ _; refine walk1_t (op_move rfl rfl rfl rfl) ?_) | (show Walk1 _ _ _ (⟨_, .binOp .add _ _ _ _, _, _, _, _⟩ :: _) _ _; refine walk1_t (op_addW rfl rfl rfl rfl rfl) ?_) | (show Walk1 _ _ _ (⟨_, .binOp .gtr _ _ _ _, _, _, _, _⟩ :: _) _ _; refine walk1_t (op_gtI rfl rfl rfl rfl rfl) ?_) | (show Walk1 _ _ _ (⟨_, .binOp .eql _ _ _ _, _, _, _, _⟩ :: _) _ _; refine walk1_t (op_eqI rfl rfl rfl rfl rfl) ?_) | (show Walk1 _ _ _ (⟨_, .load _ _, _, _, _, _⟩ :: _) _ _; first | refine walk1_t (op_load rfl rfl rfl rfl rfl rfl rfl) ?_ | refine walk1_t (op_loads rfl rfl rfl rfl rfl rfl rfl rfl) ?_) | (show Walk1 _ _ _ (⟨_, .store _ _ _, _, _, _, _⟩ :: _) _ _; refine walk1_b (op_storesM rfl rfl rfl rfl rfl rfl rfl) ?_) | (show Walk1 _ _ _ (⟨_, .alloc _, _, _, _, _⟩ :: _) _ _; refine walk1_n (op_alloc rfl rfl rfl rfl rfl) (by kernel_rfl) ?_) | (show Walk1 _ _ _ (⟨_, .box _ _, _, _, _, _⟩ :: _) _ _; refine walk1_n (op_box rfl rfl rfl rfl rfl) (by kernel_rfl) ?_) | (show Walk1 _ _ _ (⟨_, .fieldAddr _ _ _, _, _, _, _⟩ :: _) _ _; refine walk1_t (op_fldT rfl rfl rfl rfl rfl rfl off_zero) ?_) | (show Walk1 _ _ _ (⟨_, .build _ _, _, _, _, _⟩ :: _) _ _; refine walk1_t (op_buildS rfl rfl rfl rfl) ?_)) | refine go1 ?_ | refine end_block_other rfl ?_ | refine end_scope (fun _ h => by cases h) ?_ | (refine walk_endD ?_ ?_; (· kernel_rfl)) | refine tri_yesA rfl ?_ | refine tri_noA rfl ?_ | refine tri_trueA rfl ?_ | refine tri_falseA rfl ?_)
      refine end_ret (.c (.agg #[.int .i64 (aW m n), .int .i64 p, .int .i64 q, .int .i64 r, .int .i64 p', .int .i64 q', .int .i64 r'])) (res_cells rfl rfl rfl rfl rfl rfl (fun _ => rfl) (fun _ => rfl)) ?_
      exact fin_below fun _ => rfl
end Go.Proofs.Ytmpnkknocfaciaa
namespace Go.Proofs.Ytmpnkknocfaciaa
open Go.RowKit
set_option maxRecDepth 100000
set_option maxHeartbeats 2000000
def atL (l : List TriS) (k : Nat) (lo hi : Int) (i : Nat) : Nat := (binI (kyL l k i) lo hi).toNat
def allN (l : List TriS) (ks : List Nat) (k : Nat) (lo hi : Int) : Nat → List SideS
  | 0 => List.replicate 8 zS
  | j + 1 => (allN l ks k lo hi j).set (atL l k lo hi (ks.getD j 0)) (andS ((allN l ks k lo hi j).getD (atL l k lo hi (ks.getD j 0)) zS) 1 (tbox (l.getD (ks.getD j 0) zT)).1 (tbox (l.getD (ks.getD j 0) zT)).2)
def lrN (L : List SideS) (c : Nat) : Nat → SideS × SideS
  | 0 => (zS, zS)
  | i + 1 => if i < c then (andS (lrN L c i).1 (L.getD i zS).n (L.getD i zS).lo (L.getD i zS).hi, (lrN L c i).2) else ((lrN L c i).1, andS (lrN L c i).2 (L.getD i zS).n (L.getD i zS).lo (L.getD i zS).hi)
def costB (p : SideS × SideS) : Int := aW (min (costS p.1) 576460752303423488) (min (costS p.2) 576460752303423488)
def bwN (L : List SideS) : Nat → Int × Nat
  | 0 => (2305843009213693952, 1)
  | k + 1 => if (lrN L (k + 1) 8).1.n > 0 ∧ (lrN L (k + 1) 8).2.n > 0 ∧ costB (lrN L (k + 1) 8) < (bwN L k).1 then (costB (lrN L (k + 1) 8), k + 1) else bwN L k
def cutL (l : List TriS) (ks : List Nat) (k : Nat) (lo hi : Int) : Nat := (bwN (allN l ks k lo hi ks.length) 7).2
theorem allN_len (l : List TriS) (ks : List Nat) (k : Nat) (lo hi : Int) : ∀ j, (allN l ks k lo hi j).length = 8
  | 0 => by simp [allN]
  | j + 1 => by rw [allN, List.length_set]; exact allN_len l ks k lo hi j
def sidesC (L : List SideS) : Array Value := (L.flatMap fun s => (sideC s).toList).toArray
theorem sideC_size (s : SideS) : (sideC s).size = 7 := rfl
theorem sideC_one (s : SideS) : (sideC s).all (·.oneCell') = true := by simp [sideC]; exact ⟨rfl, rfl, rfl, rfl, rfl, rfl, rfl⟩
theorem sidesC_size (L : List SideS) : (sidesC L).size = L.length * 7 := by
  rw [sidesC, List.size_toArray]
  exact flat_length L fun _ _ => rfl
theorem sides_row (L : List SideS) (i : Nat) (hi : i < L.length) : ((sidesC L).toList.drop (i * 7)).take 7 = (sideC (L.getD i zS)).toList := by
  have := flat_row (sz := 7) (f := fun s : SideS => (sideC s).toList) L (fun _ _ => rfl) i L[i] (List.getElem?_eq_getElem hi)
  rw [List.getD_eq_getElem?_getD, List.getElem?_eq_getElem hi]
  exact this
theorem sides_cut (L : List SideS) (i : Nat) (hi : i < L.length) : ∃ pre post : List Value, (sidesC L).toList = pre ++ ((sideC (L.getD i zS)).toList ++ post) ∧ pre.length = i * 7 ∧ ∀ s, (sidesC (L.set i s)).toList = pre ++ ((sideC s).toList ++ post) := by
  refine ⟨(L.take i).flatMap fun s => (sideC s).toList, (L.drop (i + 1)).flatMap fun s => (sideC s).toList, ?_, ?_, fun s => ?_⟩
  · have e : L = L.take i ++ (L.getD i zS :: L.drop (i + 1)) := by
      rw [List.getD_eq_getElem?_getD, List.getElem?_eq_getElem hi, Option.getD_some, List.getElem_cons_drop, List.take_append_drop]
    show L.flatMap _ = _
    conv => lhs; rw [e]
    rw [List.flatMap_append, List.flatMap_cons]
  · rw [flat_length (sz := 7) _ fun _ _ => rfl, List.length_take]
    congr 1
    omega
  · show (L.set i s).flatMap _ = _
    rw [List.set_eq_take_append_cons_drop, if_pos hi, List.flatMap_append, List.flatMap_cons]
theorem sides_sub (L : List SideS) (i : Nat) (hi : i < L.length) : Sub (.c (sidesC L)) (0 + i * 7) 7 (.c (sideC (L.getD i zS))) := fun e => by
  obtain ⟨pre, post, h1, h2, _⟩ := sides_cut L i hi
  refine ⟨pre.toArray, post.toArray, ?_, by simp; omega, rfl⟩
  apply Array.ext'
  show (sidesC L).toList = _
  rw [h1]
  simp [SA.c]
theorem sides_upd (L : List SideS) (i : Nat) (hi : i < L.length) (s : SideS) : Upd (.c (sidesC L)) (0 + i * 7) 7 (.c (sideC s)) (.c (sidesC (L.set i s))) := fun e => by
  obtain ⟨pre, post, h1, h2, h3⟩ := sides_cut L i hi
  refine ⟨pre.toArray, sideC (L.getD i zS), post.toArray, ?_, by simp; omega, rfl, rfl, ?_⟩
  · apply Array.ext'
    show (sidesC L).toList = _
    rw [h1]
    simp
  · apply Array.ext'
    show (sidesC (L.set i s)).toList = _
    rw [h3]
    simp [SA.c]
theorem bin_in {n lo hi : Int} (h : lo < hi) (h1 : lo ≤ n) (_h2 : n ≤ hi) : 0 ≤ binI n lo hi ∧ binI n lo hi ≤ 7 := by
  unfold binI
  have : 0 ≤ ((n - lo) * 8).tdiv (hi - lo) := Int.tdiv_nonneg (by omega) (by omega)
  omega
end Go.Proofs.Ytmpnkknocfaciaa
