/- Poly1305: the Mac that takes bytes bit by bit: walked. No condition. -/
import Derived.Test.YtikopoimoaddhaaPoly3
namespace Go.Proofs.Ytikopoimoaddhaa
open Go.RowKit
set_option maxRecDepth 100000
set_option maxHeartbeats 8000000
/-! ### plain -/
def stepB (r0 r1 : BitVec 64) (h : T3) (B : List (BitVec 8)) : T3 := stepT h (num8 ((B.drop 0).take 8) 8) (num8 ((B.drop 8).take 8) 8) ((gt B 16).setWidth 64) r0 r1
structure MSt where
  h : T3
  r0 : BitVec 64
  r1 : BitVec 64
  s0 : BitVec 64
  s1 : BitVec 64
  rest : List (BitVec 8)
  all : Nat
def macA (m : MSt) (q : Nat) : SA := sumA m.h (SA.l [SV.c (.bool true), SV.c (.int .u64 (bvi m.r0)), SV.c (.int .u64 (bvi m.r1)), SV.c (.int .u64 (bvi m.s0)), SV.c (.int .u64 (bvi m.s1)), SV.v q, SV.c (.int .i64 ((m.all : Nat) : Int))])
def macC (m : MSt) (v : Value) : Array Value := sumC m.h #[.bool true, .int .u64 (bvi m.r0), .int .u64 (bvi m.r1), .int .u64 (bvi m.s0), .int .u64 (bvi m.s1), v, .int .i64 ((m.all : Nat) : Int)]
def z3 : T3 := (z64, z64, z64)
def newM (key : List (BitVec 8)) : MSt := ⟨z3, num8 (clampL ((key.drop 0).take 16)) 8, num8 (((clampL ((key.drop 0).take 16)).drop 8).take 8) 8, num8 ((key.drop 16).take 16) 8, num8 ((key.drop 24).take 8) 8, [], 0⟩
def eatK (r0 r1 : BitVec 64) (h : T3) (R : List (BitVec 8)) : Nat → T3
  | 0 => h
  | k + 1 => stepB r0 r1 (eatK r0 r1 h R k) (blk17 ((R.drop (16 * k)).take 16))
def addF (m : MSt) (d : List (BitVec 8)) : MSt := ⟨eatK m.r0 m.r1 m.h (m.rest ++ d) ((m.rest ++ d).length / 16), m.r0, m.r1, m.s0, m.s1, (m.rest ++ d).drop (16 * ((m.rest ++ d).length / 16)), m.all + d.length⟩
def sumK (r0 r1 : BitVec 64) (h : T3) (R : List (BitVec 8)) : Nat → T3
  | 0 => h
  | k + 1 => stepB r0 r1 (sumK r0 r1 h R k) (((blkK R (nbl R.length)).drop (k * 17)).take 17)
def sumM (m : MSt) : List (BitVec 8) := endL (sumK m.r0 m.r1 m.h m.rest (nbl m.rest.length)) m.s0 m.s1
def tagL (key msg : List (BitVec 8)) : List (BitVec 8) := sumM (addF (newM key) msg)
theorem flat_takeP (ds : List (List (BitVec 8))) (i : Nat) (d : List (BitVec 8)) (h : ds[i]? = some d) : (ds.take (i + 1)).flatten = (ds.take i).flatten ++ d := by
  rw [List.take_add_one, h]; simp
theorem flat_leP (ds : List (List (BitVec 8))) (i : Nat) : (ds.take i).flatten.length ≤ ds.flatten.length := by
  conv => rhs; rw [← List.take_append_drop i ds, List.flatten_append, List.length_append]
  omega
attribute [local irreducible] Calls Walk1 WalkTo Tri EndA
theorem macNew_any (key : List (BitVec 8)) (hk : key.length = 32) (w : World) : Calls Try.prog 58 #[.agg (vals .u8 key)] w (RetNL w 89 (macC (newM key)) (subK 5 0 (valsL .u8 (newM key).rest))) := by
  have cc := fun l hl w => clamp_any l hl w
  have cn := fun v n l w hv h8 => number_any v n l w hv h8
  have hcl := clampL_length ((key.drop 0).take 16)
  have hkl : ((key.drop 0).take 16).length = 16 := by simp; omega
  unfold newM
  generalize hR : clampL ((key.drop 0).take 16) = R at *
  have cc1 := fun w => cc ((key.drop 0).take 16) hkl w
  rw [hR] at cc1
  rw [hkl] at hcl
  clear hR
  refine calls_tri Try.func58 rfl Try.ntmps58 rfl ?_
  repeat (first | (show Walk1 _ _ _ (_ :: _) _ _; first | (show Walk1 _ _ _ (⟨_, .assign _, _, _, _, _⟩ :: _) _ _; first | refine walk1_t (op_assign rfl rfl rfl rfl) ?_) | (show Walk1 _ _ _ (⟨_, .load _ _, _, _, _, _⟩ :: _) _ _; first | refine walk1_t (op_loadsM rfl rfl rfl rfl rfl rfl rfl rfl) ?_) | (show Walk1 _ _ _ (⟨_, .store _ _ _, _, _, _, _⟩ :: _) _ _; first | refine walk1_b (op_stores rfl rfl rfl rfl rfl rfl rfl) ?_) | (show Walk1 _ _ _ (⟨_, .alloc _, _, _, _, _⟩ :: _) _ _; first | refine walk1_n (op_allocV rfl rfl rfl rfl rfl rfl rfl) (by kernel_rfl) ?_) | (show Walk1 _ _ _ (⟨_, .sliceToArrayPointer _ _, _, _, _, _⟩ :: _) _ _; first | refine walk1_t (op_s2a rfl rfl rfl rfl rfl (by kernel_rfl)) ?_) | (show Walk1 _ _ _ (⟨_, .box _ _, _, _, _, _⟩ :: _) _ _; first | refine walk1_n (op_box rfl rfl rfl rfl rfl) (by kernel_rfl) ?_) | (show Walk1 _ _ _ (⟨_, .slice _ _ _ _ _, _, _, _, _⟩ :: _) _ _; first | refine walk1_t (op_cutP0 rfl rfl rfl rfl rfl rfl (by first | exact evO_none | exact evO_some (by first | exact evK_const rfl | exact evK_tmp rfl)) (by first | omega | decide)) ?_) | (show Walk1 _ _ _ (⟨_, .call ⟨.value (.func 53), _, _⟩, _, _, _, _⟩ :: _) _ _; first | ((first | refine walk1_call rfl rfl rfl rfl (by repeat (first | exact evs_nil | apply evs_cons rfl)) rfl ?_ | refine walk1_call0 rfl rfl rfl (by repeat (first | exact evs_nil | apply evs_cons rfl)) rfl ?_); refine ⟨_, fun e w => cc1 w, ?_⟩))) | (show WalkTo _ _ _ _ (_ :: _) _ _ _; first | (show WalkTo _ _ _ _ (⟨_, .assign _, _, _, _, _⟩ :: _) _ _ _; first | refine walk_t (op_assign rfl rfl rfl rfl) ?_) | (show WalkTo _ _ _ _ (⟨_, .box _ _, _, _, _, _⟩ :: _) _ _ _; first | refine walk_n (op_box rfl rfl rfl rfl rfl) (by kernel_rfl) ?_) | (show WalkTo _ _ _ _ (⟨_, .build _ _, _, _, _, _⟩ :: _) _ _ _; first | refine walk_t (op_buildS rfl rfl rfl rfl) ?_) | (show WalkTo _ _ _ _ (⟨_, .slice _ _ _ _ _, _, _, _, _⟩ :: _) _ _ _; first | refine walk_t (op_cutP0 rfl rfl rfl rfl rfl rfl (by first | exact evO_none | exact evO_some (by first | exact evK_const rfl | exact evK_tmp rfl)) (by first | omega | decide)) ?_ | refine walk_t (op_cutP1 rfl rfl rfl rfl rfl rfl) ?_) | (show WalkTo _ _ _ _ (⟨_, .call ⟨.value (.func 86), _, _⟩, _, _, _, _⟩ :: _) _ _ _; first | (refine walk_callM rfl rfl rfl rfl (by repeat (first | exact evs_nil | apply evs_cons rfl)) rfl ?_; refine ⟨_, _, callM_1 ((by first | exact rdn_one rfl | exact rdn_ones rfl rfl | exact rdn_own rfl | exact rdn_osub rfl | exact rdn_whole rfl (by first | omega | (simp; omega) | (simp <;> fail) | omega) | exact rdn_sub rfl (by first | omega | decide) | exact rdn_blk rfl (by first | omega | (simp; omega) | (simp <;> fail) | omega) | exact rdn_lit rfl (by repeat (first | exact litl_nil | apply litl_bv | refine litl_z rfl ?_)) rfl | exact rdn_oldX (by assumption) | exact rdn_oldR (by assumption) | exact rdn_oldX (FSX.cutB (by assumption) (by omega)) | exact rdn_old (by assumption) (by omega) rfl | exact rdn_old (FS.rd (by first | assumption | exact FSX.fs (by assumption) | (refine FS.cutB (by assumption) ?_; omega) | (refine FS.cut (by assumption) ?_; omega))) (by omega) rfl | exact rdn_nil)) (fun e w h1 => cn _ _ _ w h1 (by first | omega | (simp only [List.length_take, List.length_drop]; omega))), ?_⟩))) | refine tri_seq ?_ | refine tri_block ?_ | refine tri_scope ?_ | refine tri_skip ?_ | refine tri_label ?_ | refine tri_ret ?_ | refine tri_exit ?_ | refine end_seq ?_ | refine end_block_exit ?_ | refine end_block_other rfl ?_ | refine end_block ?_ | refine end_block_ret ?_ | refine end_then_exit ?_ | refine end_then_ret ?_ | refine end_then ?_ | refine end_scope (fun _ h => by cases h) ?_ | refine tri_reg ?_ | refine tri_draw ?_ | refine walk1_end ?_ | (refine walk_endD ?_ ?_; (· kernel_rfl)) | refine tri_yes rfl (by first | omega | (simp <;> fail) | assumption) ?_ | refine tri_no rfl (by first | omega | (simp <;> fail) | assumption) ?_ | refine tri_true rfl (by first | with_reducible rfl | with_reducible exact Bool.not_false | with_reducible assumption) ?_ | refine tri_false rfl (by first | with_reducible rfl | with_reducible exact Bool.not_true | with_reducible assumption) ?_)
  refine end_ret _ (res_tmp rfl rfl) ?_
  exact fin_newL0 rfl (fun w => ownsSub_nil w _) (fun _ => by simp only [SA.app, SA.c, SA.l, SV.c, macC, sumC, List.map_cons, List.map_nil, List.append_toArray, List.cons_append, List.nil_append]; rfl)
theorem blk17_at (M : List (BitVec 8)) : ((blk17 M).drop (0 + 0 * 17)).take 17 = blk17 M := by
  rw [show 0 + 0 * 17 = 0 from rfl, List.drop_zero, List.take_of_length_le (by rw [blk17_length]; omega)]
theorem blocks16 (v : Value) (M : List (BitVec 8)) (w : World) (hv : FS w 1 v M.length (valsL .u8 M)) (hm : M.length = 16) :
    Calls Try.prog 50 #[v] w (RetOwn w 75 17 1 (valsL .u8 (blk17 M))) := by
  have := blocks_any v _ M w hv (by omega)
  rw [hm] at this
  have e : blkK M (nbl 16) = blk17 M := by
    show blkK M 1 = _
    simp [blkK]
  rw [e] at this
  exact this
end Go.Proofs.Ytikopoimoaddhaa
