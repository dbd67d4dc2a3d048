/- The key of a name and parts: lengths as bytes; the program's Derive: walked. No condition. -/
import Derived.Test.YtkdflpdemoaifaaSymZ
import Derived.Test.YtkdflpdemoaifaaMac8
import Derived.Test.YtkdflpdemoaifaaMac5
namespace Go.Proofs.Ytkdflpdemoaifaa
open Go.RowKit
set_option maxRecDepth 100000
set_option maxHeartbeats 1000000
def len8 (n : Nat) : List (BitVec 8) := (List.range 8).map fun i => BitVec.ofNat 8 (n / 2 ^ (8 * i))
theorem len8_length (n : Nat) : (len8 n).length = 8 := by simp [len8]
def eK (n : Nat) : Nat → List (BitVec 8)
  | 0 => List.replicate 8 0#8
  | i + 1 => (eK n i).set i (BitVec.ofNat 8 (n / 2 ^ (8 * i)))
theorem eK_length (n : Nat) : ∀ i, (eK n i).length = 8
  | 0 => by simp [eK]
  | i + 1 => by rw [eK, List.length_set]; exact eK_length n i
theorem eK_8 (n : Nat) : eK n 8 = len8 n := rfl
theorem rdn_fz {C : Ctx} {S : St} {n T : Nat} {l : List (BitVec 8)} (hr : S.res n = some (.fz n T l)) : RdN C S [n] 1 (.sc n l.length) l.length (valsL .u8 l) := fun S' e a w hq hS => by
  obtain ⟨h1, fr, h2⟩ : l.length ≤ (e n).c ∧ ∃ fr : Nat × Nat, w.heap[(e n).b]? = some (.cells (vals .u8 l ++ Array.replicate ((e n).c - l.length) (Value.int .u8 0)) T fr) := hS.res n _ ((hq n (by simp)).trans hr)
  exact (fs_fz h1 h2).1
/-- What the key is made of. -/
def allD (nm : List (BitVec 8)) (ds : List (List (BitVec 8))) (j : Nat) : List (List (BitVec 8)) := [len8 nm.length, nm] ++ (ds.take j).flatMap fun d => [len8 d.length, d]
def msgD (nm : List (BitVec 8)) (ds : List (List (BitVec 8))) (j : Nat) : List (BitVec 8) := len8 nm.length ++ nm ++ (ds.take j).flatMap fun d => len8 d.length ++ d
theorem allD_flat (nm : List (BitVec 8)) (ds : List (List (BitVec 8))) (j : Nat) : (allD nm ds j).flatten = msgD nm ds j := by
  unfold allD msgD
  generalize ds.take j = l
  rw [List.flatten_append]
  congr 1
  · simp
  · induction l with
    | nil => rfl
    | cons d l ih => rw [List.flatMap_cons, List.flatMap_cons, List.flatten_append, ih]; simp
theorem allD_next (nm : List (BitVec 8)) (ds : List (List (BitVec 8))) (j : Nat) (d : List (BitVec 8)) (h : ds[j]? = some d) : allD nm ds (j + 1) = allD nm ds j ++ [len8 d.length, d] := by
  unfold allD
  rw [List.take_add_one, h]
  simp
theorem msgD_next (nm : List (BitVec 8)) (ds : List (List (BitVec 8))) (j : Nat) (d : List (BitVec 8)) (h : ds[j]? = some d) : msgD nm ds (j + 1) = msgD nm ds j ++ len8 d.length ++ d := by
  unfold msgD
  rw [List.take_add_one, h]
  simp
theorem allD_length (nm : List (BitVec 8)) (ds : List (List (BitVec 8))) : ∀ j, j ≤ ds.length → (allD nm ds j).length = 2 + 2 * j
  | 0, _ => by simp [allD]
  | j + 1, h => by
    rw [allD_next nm ds j ds[j] (List.getElem?_eq_getElem h), List.length_append, allD_length nm ds j (by omega)]
    simp only [List.length_cons, List.length_nil]; omega
theorem msgD_length (nm : List (BitVec 8)) (ds : List (List (BitVec 8))) (hd : ∀ d ∈ ds, d.length ≤ 1000) : ∀ j, j ≤ ds.length → (msgD nm ds j).length ≤ 8 + nm.length + 1008 * j
  | 0, _ => by simp [msgD, len8_length]
  | j + 1, h => by
    have ih := msgD_length nm ds hd j (by omega)
    have h2 := hd ds[j] (List.getElem_mem _)
    rw [msgD_next nm ds j ds[j] (List.getElem?_eq_getElem h), List.length_append, List.length_append, len8_length]
    omega
attribute [local irreducible] Calls Walk1 WalkTo Tri EndA
theorem eight_any (n : Nat) (w : World) (hn : n ≤ 100000) : Calls Try.prog 94 #[.int .i64 (n : Int)] w (RetOwn w 5 1 8 (valsL .u8 (len8 n))) := by
  have hS : ∀ i, (eK n i).set i (BitVec.ofNat 8 (n / 2 ^ (8 * i))) = eK n (i + 1) := fun _ => rfl
  have h0 : eK n 0 = List.replicate 8 0#8 := rfl
  have hl := eK_length n
  rw [← eK_8]
  generalize eK n = E at *
  refine calls_tri Try.func94 rfl Try.ntmps94 rfl ?_
  repeat (first | (show Walk1 _ _ _ (_ :: _) _ _; first | (show Walk1 _ _ _ (⟨_, .move _, _, _, _, _⟩ :: _) _ _; first | refine walk1_t (op_moveN rfl rfl rfl rfl) ?_ | refine walk1_t (op_move rfl rfl rfl rfl) ?_) | (show Walk1 _ _ _ (⟨_, .assign _, _, _, _, _⟩ :: _) _ _; first | refine walk1_t (op_assign rfl rfl rfl rfl) ?_) | (show Walk1 _ _ _ (⟨_, .makeSlice _ _ _, _, _, _, _⟩ :: _) _ _; first | refine walk1_n (op_makeB (m := 8) rfl rfl rfl rfl (by first | exact evN_const rfl | exact rfl) (by first | exact evN_const rfl | exact rfl) rfl rfl rfl rfl (by first | omega | decide)) (by kernel_rfl) ?_) | (show Walk1 _ _ _ (⟨_, .call ⟨.builtin .len, _, _⟩, _, _, _, _⟩ :: _) _ _; first | refine walk1_t (op_lenV rfl rfl rfl rfl) ?_)) | refine tri_seq ?_ | refine tri_block ?_ | refine tri_scope ?_ | refine tri_skip ?_ | refine tri_label ?_ | refine tri_ret ?_ | refine tri_exit ?_ | refine end_seq ?_ | refine end_block_exit ?_ | refine end_block_other rfl ?_ | refine end_block ?_ | refine end_block_ret ?_ | refine end_then_exit ?_ | refine end_then_ret ?_ | refine end_then ?_ | refine end_scope (fun _ h => by cases h) ?_ | refine tri_reg ?_ | refine tri_draw ?_ | refine walk1_end ?_ | (refine walk_endD ?_ ?_; (· kernel_rfl)) | refine tri_yes rfl (by first | omega | (simp <;> fail) | assumption) ?_ | refine tri_no rfl (by first | omega | (simp <;> fail) | assumption) ?_ | refine tri_true rfl (by first | with_reducible rfl | with_reducible exact Bool.not_false | with_reducible assumption) ?_ | refine tri_false rfl (by first | with_reducible rfl | with_reducible exact Bool.not_true | with_reducible assumption) ?_)
  refine tri_loop (X := Nat) (fun i => ⟨[(8, SV.c (.int .i64 ((i : Nat) : Int))), (7, SV.c (.int .i64 ((8 : Nat) : Int))), (3, .v 5), (0, SV.c (.int .i64 ((n : Nat) : Int)))], [(5, some (.own 5 5 1 (8) (valsL .u8 (E i))))]⟩)
    (fun i => i ≤ 8) (fun i => 8 - i) 0 (by omega) (by rw [h0]; exact ent_keep (by repeat (first | exact hasT_nil | refine hasT_cons rfl ?_ | refine hasT_eq rfl (svi (by omega)) ?_)) (by repeat (first | exact hasR_nil | refine hasR_cons rfl ?_))) ?_
  intro i hi K next
  have hli := hl i
  by_cases h : i < 8
  · have hs := hS i
    have nx := fun S' => next S' (i + 1)
    clear next hS hl
    generalize E (i + 1) = E1 at *
    generalize E i = E0 at *
    repeat (first | (show Walk1 _ _ _ (_ :: _) _ _; first | (show Walk1 _ _ _ (⟨_, .move _, _, _, _, _⟩ :: _) _ _; first | refine walk1_t (op_move rfl rfl rfl rfl) ?_) | (show Walk1 _ _ _ (⟨_, .assign _, _, _, _, _⟩ :: _) _ _; first | refine walk1_t (op_assign rfl rfl rfl rfl) ?_) | (show Walk1 _ _ _ (⟨_, .binOp .add _ _ _ _, _, _, _, _⟩ :: _) _ _; first | refine walk1_t (op_addN rfl rfl rfl (by first | exact evN_const rfl | exact rfl) (by first | exact evN_const rfl | exact rfl) (by omega)) ?_) | (show Walk1 _ _ _ (⟨_, .binOp .mul _ _ _ _, _, _, _, _⟩ :: _) _ _; first | refine walk1_t (op_mulN rfl rfl rfl (by first | exact evN_const rfl | exact rfl) (by first | exact evN_const rfl | exact rfl) (by omega)) ?_) | (show Walk1 _ _ _ (⟨_, .binOp .lss _ _ _ _, _, _, _, _⟩ :: _) _ _; first | refine walk1_t (op_ltN rfl rfl rfl (by first | exact evN_const rfl | exact rfl) (by first | exact evN_const rfl | exact rfl)) ?_) | (show Walk1 _ _ _ (⟨_, .binOp .shr _ _ _ _, _, _, _, _⟩ :: _) _ _; first | refine walk1_t (op_shrN rfl rfl rfl (by first | exact evN_const rfl | exact rfl) (by first | exact evK_const rfl | exact evK_tmp rfl) (by omega)) ?_) | (show Walk1 _ _ _ (⟨_, .indexAddr _ _ _, _, _, _, _⟩ :: _) _ _; first | refine walk1_t (op_idxV rfl rfl rfl rfl rfl (by first | exact evK_const rfl | exact evK_tmp rfl) rfl rfl (by first | omega | decide) off_one) ?_) | (show Walk1 _ _ _ (⟨_, .store _ _ _, _, _, _, _⟩ :: _) _ _; first | refine walk1_b (op_storeV rfl rfl rfl rfl rfl rfl rfl rfl rfl (by first | omega | decide) valsL_set) ?_) | (show Walk1 _ _ _ (⟨_, .convert _ _ _, _, _, _, _⟩ :: _) _ _; first | refine walk1_t (op_convNB rfl rfl rfl (by first | exact evN_const rfl | exact rfl) rfl rfl) ?_)) | refine tri_seq ?_ | refine tri_block ?_ | refine tri_scope ?_ | refine tri_skip ?_ | refine tri_label ?_ | refine tri_ret ?_ | refine tri_exit ?_ | refine end_seq ?_ | refine end_block_exit ?_ | refine end_block_other rfl ?_ | refine end_block ?_ | refine end_block_ret ?_ | refine end_then_exit ?_ | refine end_then_ret ?_ | refine end_then ?_ | refine end_scope (fun _ h => by cases h) ?_ | refine tri_reg ?_ | refine tri_draw ?_ | refine walk1_end ?_ | (refine walk_endD ?_ ?_; (· kernel_rfl)) | refine tri_yes rfl (by first | omega | (simp <;> fail) | assumption) ?_ | refine tri_no rfl (by first | omega | (simp <;> fail) | assumption) ?_ | refine tri_true rfl (by first | with_reducible rfl | with_reducible exact Bool.not_false | with_reducible assumption) ?_ | refine tri_false rfl (by first | with_reducible rfl | with_reducible exact Bool.not_true | with_reducible assumption) ?_)
    rw [hs]
    exact nx _ (by omega) (by omega) (ent_keep (by repeat (first | exact hasT_nil | refine hasT_cons rfl ?_ | refine hasT_eq rfl (svi (by omega)) ?_)) (by repeat (first | exact hasR_nil | refine hasR_cons rfl ?_)))
  · obtain rfl : i = 8 := by omega
    clear hS hl next
    generalize E 8 = E8 at *
    repeat (first | (show Walk1 _ _ _ (_ :: _) _ _; first | (show Walk1 _ _ _ (⟨_, .move _, _, _, _, _⟩ :: _) _ _; first | refine walk1_t (op_move rfl rfl rfl rfl) ?_) | (show Walk1 _ _ _ (⟨_, .assign _, _, _, _, _⟩ :: _) _ _; first | refine walk1_t (op_assign rfl rfl rfl rfl) ?_) | (show Walk1 _ _ _ (⟨_, .binOp .lss _ _ _ _, _, _, _, _⟩ :: _) _ _; first | refine walk1_t (op_ltN rfl rfl rfl (by first | exact evN_const rfl | exact rfl) (by first | exact evN_const rfl | exact rfl)) ?_)) | refine tri_seq ?_ | refine tri_block ?_ | refine tri_scope ?_ | refine tri_skip ?_ | refine tri_label ?_ | refine tri_ret ?_ | refine tri_exit ?_ | refine end_seq ?_ | refine end_block_exit ?_ | refine end_block_other rfl ?_ | refine end_block ?_ | refine end_block_ret ?_ | refine end_then_exit ?_ | refine end_then_ret ?_ | refine end_then ?_ | refine end_scope (fun _ h => by cases h) ?_ | refine tri_reg ?_ | refine tri_draw ?_ | refine walk1_end ?_ | (refine walk_endD ?_ ?_; (· kernel_rfl)) | refine tri_yes rfl (by first | omega | (simp <;> fail) | assumption) ?_ | refine tri_no rfl (by first | omega | (simp <;> fail) | assumption) ?_ | refine tri_true rfl (by first | with_reducible rfl | with_reducible exact Bool.not_false | with_reducible assumption) ?_ | refine tri_false rfl (by first | with_reducible rfl | with_reducible exact Bool.not_true | with_reducible assumption) ?_)
    refine end_ret (.v 5) (res_tmp rfl rfl) ?_
    exact fin_own rfl
theorem refLen35_any (n : Nat) (w : World) (hn : n ≤ 100000) :
    Calls Try.prog 95 #[.int .i64 (n : Int)] w (RetOwn w 5 1 8 (valsL .u8 (len8 n))) := by
  have hS : ∀ i, (List.range i).map (fun i => BitVec.ofNat 8 (n / 2 ^ (8 * i))) ++ [BitVec.ofNat 8 (n / 2 ^ (8 * i) % 256)] = (List.range (i + 1)).map (fun i => BitVec.ofNat 8 (n / 2 ^ (8 * i))) := fun i => by
    rw [List.range_succ, List.map_append, List.map_cons, List.map_nil]
    congr 2
    apply BitVec.eq_of_toNat_eq
    simp
  have hD : ∀ i, n / 2 ^ (8 * i) / 256 = n / 2 ^ (8 * (i + 1)) := fun i => by
    rw [Nat.div_div_eq_div_mul, show (256 : Nat) = 2 ^ 8 from rfl, ← Nat.pow_add, Nat.mul_add]
  have hL : ∀ i, n / 2 ^ (8 * i) ≤ n := fun i => Nat.div_le_self _ _
  have hl : len8 n = (List.range 8).map (fun i => BitVec.ofNat 8 (n / 2 ^ (8 * i))) := rfl
  have h0 : n / 2 ^ (8 * 0) = n := by simp
  refine calls_tri Try.func95 rfl Try.ntmps95 rfl ?_
  repeat (first | (show Walk1 _ _ _ (_ :: _) _ _; first | (show Walk1 _ _ _ (⟨_, .assign _, _, _, _, _⟩ :: _) _ _; first | refine walk1_t (op_assignN rfl rfl rfl rfl) ?_ | refine walk1_t (op_assign rfl rfl rfl rfl) ?_)) | refine tri_seq ?_ | refine tri_block ?_ | refine tri_scope ?_ | refine tri_skip ?_ | refine tri_label ?_ | refine tri_ret ?_ | refine tri_exit ?_ | refine end_seq ?_ | refine end_block_exit ?_ | refine end_block_other rfl ?_ | refine end_block ?_ | refine end_block_ret ?_ | refine end_then_exit ?_ | refine end_then_ret ?_ | refine end_then ?_ | refine end_scope (fun _ h => by cases h) ?_ | refine tri_reg ?_ | refine tri_draw ?_ | refine walk1_end ?_ | (refine walk_endD ?_ ?_; (· kernel_rfl)) | refine tri_yes rfl (by first | omega | (simp <;> fail) | assumption) ?_ | refine tri_no rfl (by first | omega | (simp <;> fail) | assumption) ?_ | refine tri_true rfl (by first | with_reducible rfl | with_reducible exact Bool.not_false | with_reducible assumption) ?_ | refine tri_false rfl (by first | with_reducible rfl | with_reducible exact Bool.not_true | with_reducible assumption) ?_)
  refine tri_ent (ent_nil (i := 3) (n := 3) 5 1 rfl (by kernel_rfl)) ?_
  refine tri_loop (X := Nat) (fun i => ⟨[(4, SV.c (.int .i64 ((i : Nat) : Int))), (0, SV.c (.int .i64 ((n / 2 ^ (8 * i) : Nat) : Int))), (3, .v 3)], [(3, some (.own 3 5 1 (i) (valsL .u8 ((List.range i).map (fun i => BitVec.ofNat 8 (n / 2 ^ (8 * i)))))))]⟩)
    (fun i => i ≤ 8) (fun i => 8 - i) 0 (by omega) (by rw [h0]; exact ent_keep (by repeat (first | exact hasT_nil | refine hasT_cons rfl ?_ | refine hasT_eq rfl (svi (by omega)) ?_)) (by repeat (first | exact hasR_nil | refine hasR_cons rfl ?_))) ?_
  intro i hi K next
  by_cases h : i < 8
  · have hs := hS i
    have hd := hD i
    have hll := hL i
    have nx := fun S' => next S' (i + 1)
    clear next hS hL hD
    rw [← hd] at nx
    generalize n / 2 ^ (8 * i) = q at *
    generalize (List.range i).map (fun i => BitVec.ofNat 8 (n / 2 ^ (8 * i))) = M at *
    repeat (first | (show Walk1 _ _ _ (_ :: _) _ _; first | (show Walk1 _ _ _ (⟨_, .move _, _, _, _, _⟩ :: _) _ _; first | refine walk1_t (op_move rfl rfl rfl rfl) ?_) | (show Walk1 _ _ _ (⟨_, .assign _, _, _, _, _⟩ :: _) _ _; first | refine walk1_t (op_assign rfl rfl rfl rfl) ?_) | (show Walk1 _ _ _ (⟨_, .binOp .add _ _ _ _, _, _, _, _⟩ :: _) _ _; first | refine walk1_t (op_addN rfl rfl rfl (by first | exact evN_const rfl | exact rfl) (by first | exact evN_const rfl | exact rfl) (by omega)) ?_) | (show Walk1 _ _ _ (⟨_, .binOp .quo _ _ _ _, _, _, _, _⟩ :: _) _ _; first | refine walk1_t (op_divN rfl rfl rfl (by first | exact evN_const rfl | exact rfl) (by first | exact evN_const rfl | exact rfl) (by omega)) ?_) | (show Walk1 _ _ _ (⟨_, .binOp .rem _ _ _ _, _, _, _, _⟩ :: _) _ _; first | refine walk1_t (op_remN rfl rfl rfl (by first | exact evN_const rfl | exact rfl) (by first | exact evN_const rfl | exact rfl) (by omega)) ?_) | (show Walk1 _ _ _ (⟨_, .binOp .lss _ _ _ _, _, _, _, _⟩ :: _) _ _; first | refine walk1_t (op_ltN rfl rfl rfl (by first | exact evN_const rfl | exact rfl) (by first | exact evN_const rfl | exact rfl)) ?_) | (show Walk1 _ _ _ (⟨_, .convert _ _ _, _, _, _, _⟩ :: _) _ _; first | refine walk1_t (op_convNB rfl rfl rfl (by first | exact evN_const rfl | exact rfl) rfl rfl) ?_) | (show Walk1 _ _ _ (⟨_, .call ⟨.builtin .append, _, _⟩, _, _, _, _⟩ :: _) _ _; first | refine walk1_g (op_appendB rfl rfl rfl rfl rfl rfl rfl rfl rfl) (by kernel_rfl) ?_) | (show Walk1 _ _ _ (⟨_, .buildSlice _ _ _, _, _, _, _⟩ :: _) _ _; first | refine walk1_n (op_bslice1 rfl rfl rfl rfl rfl rfl rfl rfl rfl rfl rfl (ce_one fun _ => rfl) (sm_l rfl) (by kernel_rfl)) (by kernel_rfl) ?_)) | refine tri_seq ?_ | refine tri_block ?_ | refine tri_scope ?_ | refine tri_skip ?_ | refine tri_label ?_ | refine tri_ret ?_ | refine tri_exit ?_ | refine end_seq ?_ | refine end_block_exit ?_ | refine end_block_other rfl ?_ | refine end_block ?_ | refine end_block_ret ?_ | refine end_then_exit ?_ | refine end_then_ret ?_ | refine end_then ?_ | refine end_scope (fun _ h => by cases h) ?_ | refine tri_reg ?_ | refine tri_draw ?_ | refine walk1_end ?_ | (refine walk_endD ?_ ?_; (· kernel_rfl)) | refine tri_yes rfl (by first | omega | (simp <;> fail) | assumption) ?_ | refine tri_no rfl (by first | omega | (simp <;> fail) | assumption) ?_ | refine tri_true rfl (by first | with_reducible rfl | with_reducible exact Bool.not_false | with_reducible assumption) ?_ | refine tri_false rfl (by first | with_reducible rfl | with_reducible exact Bool.not_true | with_reducible assumption) ?_)
    rw [hs]
    exact nx _ (by omega) (by omega) (ent_ren (fun n => cond (Nat.beq n 3) 14 n) (by repeat (first | exact hasTm_nil | refine hasTm_cons rfl (fun _ => rfl) ?_)) (by repeat (first | exact hasRm_nil | refine hasRm_cons rfl (fun _ => rfl) (fun _ _ h => h) rfl ?_)) (by kernel_rfl))
  · obtain rfl : i = 8 := by omega
    rw [hl]
    clear hS hL hD next
    generalize (List.range 8).map (fun i => BitVec.ofNat 8 (n / 2 ^ (8 * i))) = M at *
    generalize n / 2 ^ (8 * 8) = q at *
    repeat (first | (show Walk1 _ _ _ (_ :: _) _ _; first | (show Walk1 _ _ _ (⟨_, .move _, _, _, _, _⟩ :: _) _ _; first | refine walk1_t (op_move rfl rfl rfl rfl) ?_) | (show Walk1 _ _ _ (⟨_, .assign _, _, _, _, _⟩ :: _) _ _; first | refine walk1_t (op_assign rfl rfl rfl rfl) ?_) | (show Walk1 _ _ _ (⟨_, .binOp .lss _ _ _ _, _, _, _, _⟩ :: _) _ _; first | refine walk1_t (op_ltN rfl rfl rfl (by first | exact evN_const rfl | exact rfl) (by first | exact evN_const rfl | exact rfl)) ?_)) | refine tri_seq ?_ | refine tri_block ?_ | refine tri_scope ?_ | refine tri_skip ?_ | refine tri_label ?_ | refine tri_ret ?_ | refine tri_exit ?_ | refine end_seq ?_ | refine end_block_exit ?_ | refine end_block_other rfl ?_ | refine end_block ?_ | refine end_block_ret ?_ | refine end_then_exit ?_ | refine end_then_ret ?_ | refine end_then ?_ | refine end_scope (fun _ h => by cases h) ?_ | refine tri_reg ?_ | refine tri_draw ?_ | refine walk1_end ?_ | (refine walk_endD ?_ ?_; (· kernel_rfl)) | refine tri_yes rfl (by first | omega | (simp <;> fail) | assumption) ?_ | refine tri_no rfl (by first | omega | (simp <;> fail) | assumption) ?_ | refine tri_true rfl (by first | with_reducible rfl | with_reducible exact Bool.not_false | with_reducible assumption) ?_ | refine tri_false rfl (by first | with_reducible rfl | with_reducible exact Bool.not_true | with_reducible assumption) ?_)
    refine end_ret (.v 3) (res_tmp rfl rfl) ?_
    exact fin_own rfl
theorem derive_any (key nm : List (BitVec 8)) (vp : Value) (ds : List (List (BitVec 8))) (w : World) (hk : key.length = 32) (hnm : nm.length ≤ 1000) (hp : SlcL w vp ds) (hdl : ds.length ≤ 10) (hd : ∀ d ∈ ds, d.length ≤ 1000) :
    Calls Try.prog 46 #[.agg (vals .u8 key), .string (strL nm), vp] w fun e w' => e = .returned (.agg (vals .u8 (macL key (msgD nm ds ds.length)))) ∧ Below w.heap.size w w' := by
  obtain ⟨ps, hps, hel⟩ := hp
  have c8 := fun n w hn => eight_any n w hn
  have hnx := allD_next nm ds
  have hal := allD_length nm ds
  have h0 : allD nm ds 0 = [len8 nm.length, nm] := by simp [allD]
  have hml := msgD_length nm ds hd ds.length (Nat.le_refl _)
  have hfl := allD_flat nm ds ds.length
  have hal2 := hal ds.length (Nat.le_refl _)
  have cm := fun vk vp w h1 h2 => macSum_any vk vp key (allD nm ds ds.length) w h1 h2 (by omega) (by omega) (by rw [hfl]; omega)
  rw [hfl] at cm
  have hRl := macL_length key (msgD nm ds ds.length)
  generalize macL key (msgD nm ds ds.length) = R at *
  have cn := fun w => c8 nm.length w (by omega)
  clear hfl hml
  generalize allD nm ds = AD at *
  refine calls_tri Try.func46 rfl Try.ntmps46 rfl ?_
  repeat (first | (show Walk1 _ _ _ (_ :: _) _ _; first | (show Walk1 _ _ _ (⟨_, .move _, _, _, _, _⟩ :: _) _ _; first | refine walk1_t (op_moveN rfl rfl rfl rfl) ?_ | refine walk1_t (op_move rfl rfl rfl rfl) ?_) | (show Walk1 _ _ _ (⟨_, .assign _, _, _, _, _⟩ :: _) _ _; first | refine walk1_t (op_assign rfl rfl rfl rfl) ?_) | (show Walk1 _ _ _ (⟨_, .alloc _, _, _, _, _⟩ :: _) _ _; first | refine walk1_n (op_alloc rfl rfl rfl rfl rfl) (by kernel_rfl) ?_) | (show Walk1 _ _ _ (⟨_, .box _ _, _, _, _, _⟩ :: _) _ _; first | refine walk1_n (op_box rfl rfl rfl rfl rfl) (by kernel_rfl) ?_) | (show Walk1 _ _ _ (⟨_, .convert _ _ _, _, _, _, _⟩ :: _) _ _; first | refine walk1_n (op_cvtSF rfl rfl rfl rfl rfl rfl rfl rfl) (by kernel_rfl) ?_) | (show Walk1 _ _ _ (⟨_, .call ⟨.builtin .len, _, _⟩, _, _, _, _⟩ :: _) _ _; first | refine walk1_t (op_lenF rfl rfl rfl (by first | assumption | exact FS.rd (by first | assumption | exact FSX.fs (by assumption) | (refine FS.cutB (by assumption) ?_; omega) | (refine FS.cut (by assumption) ?_; omega)))) ?_ | refine walk1_t (op_lenSt rfl rfl rfl) ?_) | (show Walk1 _ _ _ (⟨_, .buildSlice _ _ _, _, _, _, _⟩ :: _) _ _; first | refine walk1_n (op_bsliceL rfl (by repeat (first | exact evl1_nil | apply evl1_cons rfl)) rfl rfl rfl rfl rfl rfl rfl rfl (by decide) (by repeat (first | exact ones_nil | apply ones_own rfl | apply ones_sub rfl | apply ones_one (fun _ => rfl))) (by kernel_rfl)) (by kernel_rfl) ?_) | (show Walk1 _ _ _ (⟨_, .call ⟨.value (.func 94), _, _⟩, _, _, _, _⟩ :: _) _ _; first | (refine walk1_callO rfl rfl rfl rfl (by kernel_rfl) (by repeat (first | exact evs_nil | apply evs_cons rfl)) rfl ?_; refine ⟨_, _, _, _, _, callO_0  (fun e w  => cn w), ?_⟩))) | refine tri_seq ?_ | refine tri_block ?_ | refine tri_scope ?_ | refine tri_skip ?_ | refine tri_label ?_ | refine tri_ret ?_ | refine tri_exit ?_ | refine end_seq ?_ | refine end_block_exit ?_ | refine end_block_other rfl ?_ | refine end_block ?_ | refine end_block_ret ?_ | refine end_then_exit ?_ | refine end_then_ret ?_ | refine end_then ?_ | refine end_scope (fun _ h => by cases h) ?_ | refine tri_reg ?_ | refine tri_draw ?_ | refine walk1_end ?_ | (refine walk_endD ?_ ?_; (· kernel_rfl)) | refine tri_yes rfl (by first | omega | (simp <;> fail) | assumption) ?_ | refine tri_no rfl (by first | omega | (simp <;> fail) | assumption) ?_ | refine tri_true rfl (by first | with_reducible rfl | with_reducible exact Bool.not_false | with_reducible assumption) ?_ | refine tri_false rfl (by first | with_reducible rfl | with_reducible exact Bool.not_true | with_reducible assumption) ?_)
  refine tri_ent (ent_slr (i := 7) 700 rfl rfl rfl rfl rfl (by kernel_rfl)) ?_
  rw [← h0]
  refine tri_loop (X := Nat) (fun j => ⟨[(18, SV.c (.int .i64 ((j : Nat) : Int))), (17, SV.c (.int .i64 ((ds.length : Nat) : Int))), (16, .c vp), (7, .v 700), (3, .p 3 0), (6, .p 6 0)], [(700, some (.slr 700 28 5 (AD j) w)), (3, some (.blk 3 29 (.c (vals .u8 (key))))), (6, some (.blk 6 29 (.c (vals .u8 (List.replicate 32 0#8)))))]⟩)
    (fun j => j ≤ ds.length) (fun j => ds.length - j) 0 (by omega) (ent_keep (by repeat (first | exact hasT_nil | refine hasT_cons rfl ?_ | refine hasT_eq rfl (svi (by omega)) ?_)) (by repeat (first | exact hasR_nil | refine hasR_cons rfl ?_))) ?_
  intro j hj K next
  have halj := hal j hj
  by_cases h : j < ds.length
  · obtain ⟨d, hd0⟩ : ∃ d, ds[j]? = some d := ⟨ds[j], List.getElem?_eq_getElem h⟩
    obtain ⟨p, hp, hfs⟩ := hel j d hd0
    have hdl1 := hd d (List.mem_of_getElem? hd0)
    have hn1 := hnx j d hd0
    obtain ⟨pa, pc, rfl, _⟩ := hfs.2
    have hXp := fsx_of hfs (by omega)
    have cd := fun w => c8 d.length w (by omega)
    have nx := fun S' => next S' (j + 1)
    clear next hnx hal cm cn c8 hel h0 hal2 hd0
    generalize hL1 : AD (j + 1) = L1 at *
    generalize AD j = L0 at *
    generalize len8 d.length = LD at *
    repeat (first | (show Walk1 _ _ _ (_ :: _) _ _; first | (show Walk1 _ _ _ (⟨_, .move _, _, _, _, _⟩ :: _) _ _; first | refine walk1_t (op_move rfl rfl rfl rfl) ?_) | (show Walk1 _ _ _ (⟨_, .assign _, _, _, _, _⟩ :: _) _ _; first | refine walk1_t (op_assign rfl rfl rfl rfl) ?_) | (show Walk1 _ _ _ (⟨_, .binOp .add _ _ _ _, _, _, _, _⟩ :: _) _ _; first | refine walk1_t (op_addN rfl rfl rfl (by first | exact evN_const rfl | exact rfl) (by first | exact evN_const rfl | exact rfl) (by omega)) ?_) | (show Walk1 _ _ _ (⟨_, .binOp .lss _ _ _ _, _, _, _, _⟩ :: _) _ _; first | refine walk1_t (op_ltN rfl rfl rfl (by first | exact evN_const rfl | exact rfl) (by first | exact evN_const rfl | exact rfl)) ?_) | (show Walk1 _ _ _ (⟨_, .indexAddr _ _ _, _, _, _, _⟩ :: _) _ _; first | refine walk1_t (op_idxF rfl rfl rfl rfl (by first | exact evK_const rfl | exact evK_tmp rfl) rfl rfl (by first | assumption | exact FS.rd (by first | assumption | exact FSX.fs (by assumption) | (refine FS.cutB (by assumption) ?_; omega) | (refine FS.cut (by assumption) ?_; omega))) (by first | omega | decide) off_one) ?_) | (show Walk1 _ _ _ (⟨_, .load _ _, _, _, _, _⟩ :: _) _ _; first | refine walk1_t (op_loadF rfl rfl rfl rfl rfl rfl rfl (by first | assumption | exact FS.rd (by first | assumption | exact FSX.fs (by assumption) | (refine FS.cutB (by assumption) ?_; omega) | (refine FS.cut (by assumption) ?_; omega))) (by omega) (by assumption)) ?_) | (show Walk1 _ _ _ (⟨_, .call ⟨.builtin .len, _, _⟩, _, _, _, _⟩ :: _) _ _; first | refine walk1_t (op_lenC rfl rfl rfl) ?_) | (show Walk1 _ _ _ (⟨_, .call ⟨.builtin .append, _, _⟩, _, _, _, _⟩ :: _) _ _; first | refine walk1_appendSl (op_appendSl rfl rfl rfl rfl rfl rfl (by assumption) rfl rfl rfl rfl rfl (by omega) rfl rfl) (by kernel_rfl) ?_) | (show Walk1 _ _ _ (⟨_, .buildSlice _ _ _, _, _, _, _⟩ :: _) _ _; first | refine walk1_n (op_bsliceL rfl (by repeat (first | exact evl1_nil | apply evl1_cons rfl)) rfl rfl rfl rfl rfl rfl rfl rfl (by decide) (by repeat (first | exact ones_nil | apply ones_own rfl | apply ones_sub rfl | apply ones_one (fun _ => rfl))) (by kernel_rfl)) (by kernel_rfl) ?_) | (show Walk1 _ _ _ (⟨_, .call ⟨.value (.func 94), _, _⟩, _, _, _, _⟩ :: _) _ _; first | (refine walk1_callO rfl rfl rfl rfl (by kernel_rfl) (by repeat (first | exact evs_nil | apply evs_cons rfl)) rfl ?_; refine ⟨_, _, _, _, _, callO_0  (fun e w  => cd w), ?_⟩))) | refine tri_seq ?_ | refine tri_block ?_ | refine tri_scope ?_ | refine tri_skip ?_ | refine tri_label ?_ | refine tri_ret ?_ | refine tri_exit ?_ | refine end_seq ?_ | refine end_block_exit ?_ | refine end_block_other rfl ?_ | refine end_block ?_ | refine end_block_ret ?_ | refine end_then_exit ?_ | refine end_then_ret ?_ | refine end_then ?_ | refine end_scope (fun _ h => by cases h) ?_ | refine tri_reg ?_ | refine tri_draw ?_ | refine walk1_end ?_ | (refine walk_endD ?_ ?_; (· kernel_rfl)) | refine tri_yes rfl (by first | omega | (simp <;> fail) | assumption) ?_ | refine tri_no rfl (by first | omega | (simp <;> fail) | assumption) ?_ | refine tri_true rfl (by first | with_reducible rfl | with_reducible exact Bool.not_false | with_reducible assumption) ?_ | refine tri_false rfl (by first | with_reducible rfl | with_reducible exact Bool.not_true | with_reducible assumption) ?_)
    rw [← hn1]
    exact nx _ (by omega) (by omega) (ent_ren (fun n => cond (Nat.beq n 700) 28 n) (by repeat (first | exact hasTm_nil | refine hasTm_cons rfl (fun _ => rfl) ?_)) (by repeat (first | exact hasRm_nil | refine hasRm_cons rfl (fun _ => rfl) (fun _ _ h => h) rfl ?_)) (by kernel_rfl))
  · obtain rfl : j = ds.length := by omega
    clear next hnx hal hel h0
    generalize AD ds.length = L at *
    repeat (first | (show Walk1 _ _ _ (_ :: _) _ _; first | (show Walk1 _ _ _ (⟨_, .move _, _, _, _, _⟩ :: _) _ _; first | refine walk1_t (op_move rfl rfl rfl rfl) ?_) | (show Walk1 _ _ _ (⟨_, .binOp .lss _ _ _ _, _, _, _, _⟩ :: _) _ _; first | refine walk1_t (op_ltN rfl rfl rfl (by first | exact evN_const rfl | exact rfl) (by first | exact evN_const rfl | exact rfl)) ?_) | (show Walk1 _ _ _ (⟨_, .store _ _ _, _, _, _, _⟩ :: _) _ _; first | refine walk1_b (op_stores rfl rfl rfl rfl rfl rfl rfl) ?_) | (show Walk1 _ _ _ (⟨_, .slice _ _ _ _ _, _, _, _, _⟩ :: _) _ _; first | refine walk1_t (op_cutP0 rfl rfl rfl rfl rfl rfl (by first | exact evO_none | exact evO_some (by first | exact evK_const rfl | exact evK_tmp rfl)) (by first | omega | decide)) ?_) | (show Walk1 _ _ _ (⟨_, .call ⟨.value (.func 41), _, _⟩, _, _, _, _⟩ :: _) _ _; first | (refine walk1_callM rfl rfl rfl rfl (by repeat (first | exact evs_nil | apply evs_cons rfl)) rfl ?_; refine ⟨_, _, callM_sl (fsq_whole rfl hk (by omega)) rfl rfl (fun e w h1 h2 => cm _ _ w h1 h2), ?_⟩))) | refine tri_seq ?_ | refine tri_block ?_ | refine tri_scope ?_ | refine tri_skip ?_ | refine tri_label ?_ | refine tri_ret ?_ | refine tri_exit ?_ | refine end_seq ?_ | refine end_block_exit ?_ | refine end_block_other rfl ?_ | refine end_block ?_ | refine end_block_ret ?_ | refine end_then_exit ?_ | refine end_then_ret ?_ | refine end_then ?_ | refine end_scope (fun _ h => by cases h) ?_ | refine tri_reg ?_ | refine tri_draw ?_ | refine walk1_end ?_ | (refine walk_endD ?_ ?_; (· kernel_rfl)) | refine tri_yes rfl (by first | omega | (simp <;> fail) | assumption) ?_ | refine tri_no rfl (by first | omega | (simp <;> fail) | assumption) ?_ | refine tri_true rfl (by first | with_reducible rfl | with_reducible exact Bool.not_false | with_reducible assumption) ?_ | refine tri_false rfl (by first | with_reducible rfl | with_reducible exact Bool.not_true | with_reducible assumption) ?_)
    refine end_ret _ (res_cells rfl rfl rfl rfl rfl rfl (sm_vals hRl) ag_c) ?_
    exact fin_below fun _ => rfl
end Go.Proofs.Ytkdflpdemoaifaa
