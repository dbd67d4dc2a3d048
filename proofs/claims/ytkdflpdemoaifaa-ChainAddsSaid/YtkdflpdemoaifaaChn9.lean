/- The document's Bytes, Next, Start: walked. No condition. -/
import Derived.Test.YtkdflpdemoaifaaChn5
import Derived.Test.YtkdflpdemoaifaaChn6
import Derived.Test.YtkdflpdemoaifaaSha10
namespace Go.Proofs.Ytkdflpdemoaifaa
open Go.RowKit
set_option maxRecDepth 100000
set_option maxHeartbeats 4000000
theorem take_snocP {α : Type} [Inhabited α] (P l : List α) (i : Nat) (x : α) (h : l[i]? = some x) : P ++ l.take i ++ [x] = P ++ l.take (i + 1) := by
  rw [List.take_add_one, h, List.append_assoc]
  rfl
attribute [local irreducible] Calls Walk1 WalkTo Tri EndA
theorem refBytes_any (e : Ent32) (he : e.ok) (w : World) : Calls Try.prog 59 #[.agg (entC e).toArray] w (RetOwn w 5 1 (entB e).length (valsL .u8 (entB e))) := by
  obtain ⟨h1, h2, h3, h4⟩ := he
  have hz : ∀ z ∈ [e.seq, (e.clk.toNat : Int), e.who, e.err], okI z := by
    intro z hz
    simp only [List.mem_cons, List.not_mem_nil, or_false] at hz
    have := e.clk.isLt
    rcases hz with rfl | rfl | rfl | rfl
    · exact h1
    · constructor <;> omega
    · exact h2
    · exact h3
  have cs := fun v0 v w h h' => refSigned_any v0 v 0 4 [] [e.seq, (e.clk.toNat : Int), e.who, e.err] w h (by simp) h' hz (by simp)
  have hB : entB e = putL (sgL [e.seq, (e.clk.toNat : Int), e.who, e.err]) ++ e.sum := rfl
  have hpl : (putL (sgL [e.seq, (e.clk.toNat : Int), e.who, e.err])).length = 32 := by rw [putL_length]; rfl
  have hnil : ([] : List (BitVec 8)) ++ putL (sgL [e.seq, (e.clk.toNat : Int), e.who, e.err]) = putL (sgL [e.seq, (e.clk.toNat : Int), e.who, e.err]) := rfl
  rw [hnil] at cs
  rw [hB]
  generalize putL (sgL [e.seq, (e.clk.toNat : Int), e.who, e.err]) = P at *
  clear hB hz hnil
  obtain ⟨seq, clk, who, err, sum⟩ := e
  have h4 : sum.length = 32 := h4
  have hE0 : (entC ⟨seq, clk, who, err, sum⟩).toArray[0]? = some (.int .i64 seq) := rfl
  have hE1 : (entC ⟨seq, clk, who, err, sum⟩).toArray[1]? = some (.int .u32 (bvi clk)) := rfl
  have hE2 : (entC ⟨seq, clk, who, err, sum⟩).toArray[2]? = some (.int .i64 who) := rfl
  have hE3 : (entC ⟨seq, clk, who, err, sum⟩).toArray[3]? = some (.int .i64 err) := rfl
  have hE4 : ∀ i, i < 32 → (entC ⟨seq, clk, who, err, sum⟩).toArray[4 + i * 1]? = some (.int .u8 (bvi (gt sum i))) := fun i hi => by
    rw [List.getElem?_toArray, entC, List.getElem?_append_right (by simp), show 4 + i * 1 - ([Value.int .i64 seq, Value.int .u32 (bvi clk), Value.int .i64 who, Value.int .i64 err] : List Value).length = i by simp]
    rw [← List.getElem?_toArray]
    exact vals_get (by omega)
  generalize (entC ⟨seq, clk, who, err, sum⟩).toArray = E at *
  refine calls_tri Try.func59 rfl Try.ntmps59 rfl ?_
  have hP0 : P ++ sum.take 0 = P := by simp
  repeat (first | (show Walk1 _ _ _ (_ :: _) _ _; first | (show Walk1 _ _ _ (⟨_, .move _, _, _, _, _⟩ :: _) _ _; first | refine walk1_t (op_move rfl rfl rfl rfl) ?_) | (show Walk1 _ _ _ (⟨_, .assign _, _, _, _, _⟩ :: _) _ _; first | refine walk1_t (op_assignN rfl rfl rfl rfl) ?_ | refine walk1_t (op_assign rfl rfl rfl rfl) ?_) | (show Walk1 _ _ _ (⟨_, .load _ _, _, _, _, _⟩ :: _) _ _; first | refine walk1_t (op_load rfl rfl rfl rfl rfl rfl rfl (ld_any (by with_reducible assumption))) ?_) | (show Walk1 _ _ _ (⟨_, .box _ _, _, _, _, _⟩ :: _) _ _; first | refine walk1_n (op_box rfl rfl rfl rfl rfl) (by kernel_rfl) ?_) | (show Walk1 _ _ _ (⟨_, .fieldAddr _ _ _, _, _, _, _⟩ :: _) _ _; first | refine walk1_t (op_fldT rfl rfl rfl rfl rfl rfl off_zero) ?_) | (show Walk1 _ _ _ (⟨_, .extract _ _, _, _, _, _⟩ :: _) _ _; first | refine walk1_t (op_extract rfl rfl rfl rfl rfl) ?_) | (show Walk1 _ _ _ (⟨_, .convert _ _ _, _, _, _, _⟩ :: _) _ _; first | refine walk1_t (op_convBN rfl rfl rfl (by (first | exact evB_tmp rfl | exact evB_lit rfl rfl)) rfl rfl (by omega)) ?_) | (show Walk1 _ _ _ (⟨_, .buildSlice _ _ _, _, _, _, _⟩ :: _) _ _; first | refine walk1_n (op_bsliceL rfl (by repeat (first | exact evl1_nil | apply evl1_cons rfl)) rfl rfl rfl rfl rfl rfl rfl rfl (by decide) (by repeat (first | exact ones_nil | apply ones_own rfl | apply ones_sub rfl | apply ones_one (fun _ => rfl))) (by kernel_rfl)) (by kernel_rfl) ?_) | (show Walk1 _ _ _ (⟨_, .call ⟨.value (.func 99), _, _⟩, _, _, _, _⟩ :: _) _ _; first | (refine walk1_callOT rfl rfl rfl rfl (by kernel_rfl) (by repeat (first | exact evs_nil | apply evs_cons rfl)) rfl ?_; refine ⟨_, _, _, _, _, _, callOT_2 (rdn_nil) (rdn_ls [.int .i64 seq, .int .i64 (clk.toNat : Int), .int .i64 who, .int .i64 err] rfl rfl) (fun e w h1 h2 => cs _ _ w h1 h2), ?_⟩))) | refine tri_seq ?_ | refine tri_block ?_ | refine tri_scope ?_ | refine tri_skip ?_ | refine tri_label ?_ | refine tri_ret ?_ | refine tri_exit ?_ | refine end_seq ?_ | refine end_block_exit ?_ | refine end_block_other rfl ?_ | refine end_block ?_ | refine end_block_ret ?_ | refine end_then_exit ?_ | refine end_then_ret ?_ | refine end_then ?_ | refine end_scope (fun _ h => by cases h) ?_ | refine tri_reg ?_ | refine tri_draw ?_ | refine walk1_end ?_ | (refine walk_endD ?_ ?_; (· kernel_rfl)) | refine tri_yes rfl (by first | omega | (simp <;> fail) | assumption) ?_ | refine tri_no rfl (by first | omega | (simp <;> fail) | assumption) ?_ | refine tri_true rfl (by first | with_reducible rfl | with_reducible exact Bool.not_false | with_reducible assumption) ?_ | refine tri_false rfl (by first | with_reducible rfl | with_reducible exact Bool.not_true | with_reducible assumption) ?_)
  refine tri_loop (X := Nat) (fun i => ⟨[(5, SV.c (.int .i64 ((i : Nat) : Int))), (3, .v 17), (1, .p 1 0)], [(1, some (.blk 1 74 (.c E))), (17, some (.own 17 5 1 (P ++ sum.take i).length (valsL .u8 (P ++ sum.take i))))]⟩)
    (fun i => i ≤ 32) (fun i => 32 - i) 0 (by omega) (by rw [hP0]; exact ent_keep (by repeat (first | exact hasT_nil | refine hasT_cons rfl ?_ | refine hasT_eq rfl (svi (by omega)) ?_)) (by repeat (first | exact hasR_nil | refine hasR_cons rfl ?_))) ?_
  intro i hi K next
  have hQl : (P ++ sum.take i).length = 32 + i := by rw [List.length_append, List.length_take, hpl]; omega
  by_cases h : i < 32
  · have hsn := take_snocP P sum i (gt sum i) (by rw [gt_lt _ _ (by omega)]; exact List.getElem?_eq_getElem (by omega))
    have hlen : (P ++ sum.take (i + 1)).length = (P ++ sum.take i).length + 1 := by rw [← hsn, List.length_append (bs := [gt sum i]), List.length_singleton]
    generalize hq1 : P ++ sum.take (i + 1) = Q1 at *
    generalize P ++ sum.take i = Q at *
    have hgi := hE4 i h
    have hnx := next
    clear next
    repeat (first | (show Walk1 _ _ _ (_ :: _) _ _; first | (show Walk1 _ _ _ (⟨_, .move _, _, _, _, _⟩ :: _) _ _; first | refine walk1_t (op_move rfl rfl rfl rfl) ?_) | (show Walk1 _ _ _ (⟨_, .assign _, _, _, _, _⟩ :: _) _ _; first | refine walk1_t (op_assign rfl rfl rfl rfl) ?_) | (show Walk1 _ _ _ (⟨_, .binOp .add _ _ _ _, _, _, _, _⟩ :: _) _ _; first | refine walk1_t (op_addN rfl rfl rfl (by first | exact evN_const rfl | exact rfl) (by first | exact evN_const rfl | exact rfl) (by omega)) ?_) | (show Walk1 _ _ _ (⟨_, .binOp .lss _ _ _ _, _, _, _, _⟩ :: _) _ _; first | refine walk1_t (op_ltN rfl rfl rfl (by first | exact evN_const rfl | exact rfl) (by first | exact evN_const rfl | exact rfl)) ?_) | (show Walk1 _ _ _ (⟨_, .indexAddr _ _ _, _, _, _, _⟩ :: _) _ _; first | refine walk1_t (op_idxP rfl rfl rfl rfl (by first | exact evK_const rfl | exact evK_tmp rfl) rfl rfl (by first | omega | decide) rfl) ?_) | (show Walk1 _ _ _ (⟨_, .load _ _, _, _, _, _⟩ :: _) _ _; first | refine walk1_t (op_load rfl rfl rfl rfl rfl rfl rfl (ld_any (by with_reducible assumption))) ?_) | (show Walk1 _ _ _ (⟨_, .fieldAddr _ _ _, _, _, _, _⟩ :: _) _ _; first | refine walk1_t (op_fldT rfl rfl rfl rfl rfl rfl off_zero) ?_) | (show Walk1 _ _ _ (⟨_, .call ⟨.builtin .append, _, _⟩, _, _, _, _⟩ :: _) _ _; first | refine walk1_g (op_appendB rfl rfl rfl rfl rfl rfl rfl rfl rfl) (by kernel_rfl) ?_) | (show Walk1 _ _ _ (⟨_, .buildSlice _ _ _, _, _, _, _⟩ :: _) _ _; first | refine walk1_n (op_bslice1 rfl rfl rfl rfl rfl rfl rfl rfl rfl rfl rfl (ce_one fun _ => rfl) (sm_l rfl) (by kernel_rfl)) (by kernel_rfl) ?_)) | refine tri_seq ?_ | refine tri_block ?_ | refine tri_scope ?_ | refine tri_skip ?_ | refine tri_label ?_ | refine tri_ret ?_ | refine tri_exit ?_ | refine end_seq ?_ | refine end_block_exit ?_ | refine end_block_other rfl ?_ | refine end_block ?_ | refine end_block_ret ?_ | refine end_then_exit ?_ | refine end_then_ret ?_ | refine end_then ?_ | refine end_scope (fun _ h => by cases h) ?_ | refine tri_reg ?_ | refine tri_draw ?_ | refine walk1_end ?_ | (refine walk_endD ?_ ?_; (· kernel_rfl)) | refine tri_yes rfl (by first | omega | (simp <;> fail) | assumption) ?_ | refine tri_no rfl (by first | omega | (simp <;> fail) | assumption) ?_ | refine tri_true rfl (by first | with_reducible rfl | with_reducible exact Bool.not_false | with_reducible assumption) ?_ | refine tri_false rfl (by first | with_reducible rfl | with_reducible exact Bool.not_true | with_reducible assumption) ?_)
    rw [hsn, ← hlen, ← hq1]
    exact hnx _ (i + 1) (by omega) (by omega) (ent_ren (fun n => cond (Nat.beq n 17) 30 n) (by repeat (first | exact hasTm_nil | refine hasTm_cons rfl (fun _ => rfl) ?_)) (by repeat (first | exact hasRm_nil | refine hasRm_cons rfl (fun _ => rfl) (fun _ _ h => h) rfl ?_)) (by kernel_rfl))
  · obtain rfl : i = 32 := by omega
    rw [List.take_of_length_le (show sum.length ≤ 32 by omega)] at *
    generalize P ++ sum = Q at *
    repeat (first | (show Walk1 _ _ _ (_ :: _) _ _; first | (show Walk1 _ _ _ (⟨_, .move _, _, _, _, _⟩ :: _) _ _; first | refine walk1_t (op_move rfl rfl rfl rfl) ?_) | (show Walk1 _ _ _ (⟨_, .assign _, _, _, _, _⟩ :: _) _ _; first | refine walk1_t (op_assign rfl rfl rfl rfl) ?_) | (show Walk1 _ _ _ (⟨_, .binOp .lss _ _ _ _, _, _, _, _⟩ :: _) _ _; first | refine walk1_t (op_ltN rfl rfl rfl (by first | exact evN_const rfl | exact rfl) (by first | exact evN_const rfl | exact rfl)) ?_)) | refine tri_seq ?_ | refine tri_block ?_ | refine tri_scope ?_ | refine tri_skip ?_ | refine tri_label ?_ | refine tri_ret ?_ | refine tri_exit ?_ | refine end_seq ?_ | refine end_block_exit ?_ | refine end_block_other rfl ?_ | refine end_block ?_ | refine end_block_ret ?_ | refine end_then_exit ?_ | refine end_then_ret ?_ | refine end_then ?_ | refine end_scope (fun _ h => by cases h) ?_ | refine tri_reg ?_ | refine tri_draw ?_ | refine walk1_end ?_ | (refine walk_endD ?_ ?_; (· kernel_rfl)) | refine tri_yes rfl (by first | omega | (simp <;> fail) | assumption) ?_ | refine tri_no rfl (by first | omega | (simp <;> fail) | assumption) ?_ | refine tri_true rfl (by first | with_reducible rfl | with_reducible exact Bool.not_false | with_reducible assumption) ?_ | refine tri_false rfl (by first | with_reducible rfl | with_reducible exact Bool.not_true | with_reducible assumption) ?_)
    refine end_ret (.v 17) (res_tmp rfl rfl) ?_
    exact fin_own rfl
theorem refChNext_any (head : List (BitVec 8)) (hh : head.length = 32) (e : Ent32) (he : e.ok) (w : World) : Calls Try.prog 60 #[.agg (vals .u8 head), .agg (entC e).toArray] w fun r w' => r = .returned (.agg (vals .u8 (nextL head e))) ∧ Below w.heap.size w w' := by
  have hel := entB_length e he
  have cb := fun w => refBytes_any e he w
  have cs := fun v n w h => refSum_any v n (head ++ entB e) w h (by rw [List.length_append]; omega)
  have hcl : (entC e).toArray.size = 36 := by rw [List.size_toArray]; exact entC_length e he
  have hdl := shaL_length (head ++ entB e)
  unfold nextL
  generalize shaL (head ++ entB e) = R at *
  generalize entB e = B at *
  generalize (entC e).toArray = E at *
  have h0 : ([] : List (BitVec 8)) ++ head.take 0 = [] := rfl
  refine calls_tri Try.func60 rfl Try.ntmps60 rfl ?_
  repeat (first | (show Walk1 _ _ _ (_ :: _) _ _; first | (show Walk1 _ _ _ (⟨_, .assign _, _, _, _, _⟩ :: _) _ _; first | refine walk1_t (op_assignN rfl rfl rfl rfl) ?_ | refine walk1_t (op_assign rfl rfl rfl rfl) ?_) | (show Walk1 _ _ _ (⟨_, .alloc _, _, _, _, _⟩ :: _) _ _; first | refine walk1_n (op_allocV rfl rfl rfl rfl rfl rfl rfl) (by kernel_rfl) ?_) | (show Walk1 _ _ _ (⟨_, .box _ _, _, _, _, _⟩ :: _) _ _; first | refine walk1_n (op_box rfl rfl rfl rfl rfl) (by kernel_rfl) ?_)) | refine tri_seq ?_ | refine tri_block ?_ | refine tri_scope ?_ | refine tri_skip ?_ | refine tri_label ?_ | refine tri_ret ?_ | refine tri_exit ?_ | refine end_seq ?_ | refine end_block_exit ?_ | refine end_block_other rfl ?_ | refine end_block ?_ | refine end_block_ret ?_ | refine end_then_exit ?_ | refine end_then_ret ?_ | refine end_then ?_ | refine end_scope (fun _ h => by cases h) ?_ | refine tri_reg ?_ | refine tri_draw ?_ | refine walk1_end ?_ | (refine walk_endD ?_ ?_; (· kernel_rfl)) | refine tri_yes rfl (by first | omega | (simp <;> fail) | assumption) ?_ | refine tri_no rfl (by first | omega | (simp <;> fail) | assumption) ?_ | refine tri_true rfl (by first | with_reducible rfl | with_reducible exact Bool.not_false | with_reducible assumption) ?_ | refine tri_false rfl (by first | with_reducible rfl | with_reducible exact Bool.not_true | with_reducible assumption) ?_)
  refine tri_ent (ent_nil (i := 5) (n := 5) 5 1 rfl (by kernel_rfl)) ?_
  refine tri_loop (X := Nat) (fun i => ⟨[(6, SV.c (.int .i64 ((i : Nat) : Int))), (5, .v 5), (4, .p 4 0), (3, .p 3 0), (2, .p 2 0)], [(2, some (.blk 2 29 (.c (vals .u8 (head))))), (3, some (.blk 3 74 (.c E))), (4, some (.blk 4 29 (.c (vals .u8 (List.replicate 32 0#8))))), (5, some (.own 5 5 1 (head.take i).length (valsL .u8 (head.take i))))]⟩)
    (fun i => i ≤ 32) (fun i => 32 - i) 0 (by omega) (ent_keep (by repeat (first | exact hasT_nil | refine hasT_cons rfl ?_ | refine hasT_eq rfl (svi (by omega)) ?_)) (by repeat (first | exact hasR_nil | refine hasR_cons rfl ?_))) ?_
  intro i hi K next
  have hQl : (head.take i).length = i := by rw [List.length_take]; omega
  by_cases h : i < 32
  · have hsn := take_snocP [] head i (gt head i) (by rw [gt_lt _ _ (by omega)]; exact List.getElem?_eq_getElem (by omega))
    simp only [List.nil_append] at hsn
    have hlen : (head.take (i + 1)).length = (head.take i).length + 1 := by rw [← hsn, List.length_append (bs := [gt head i]), List.length_singleton]
    generalize hq1 : head.take (i + 1) = Q1 at *
    generalize head.take i = Q at *
    have hnx := next
    clear next
    repeat (first | (show Walk1 _ _ _ (_ :: _) _ _; first | (show Walk1 _ _ _ (⟨_, .move _, _, _, _, _⟩ :: _) _ _; first | refine walk1_t (op_move rfl rfl rfl rfl) ?_) | (show Walk1 _ _ _ (⟨_, .assign _, _, _, _, _⟩ :: _) _ _; first | refine walk1_t (op_assign rfl rfl rfl rfl) ?_) | (show Walk1 _ _ _ (⟨_, .binOp .add _ _ _ _, _, _, _, _⟩ :: _) _ _; first | refine walk1_t (op_addN rfl rfl rfl (by first | exact evN_const rfl | exact rfl) (by first | exact evN_const rfl | exact rfl) (by omega)) ?_) | (show Walk1 _ _ _ (⟨_, .binOp .lss _ _ _ _, _, _, _, _⟩ :: _) _ _; first | refine walk1_t (op_ltN rfl rfl rfl (by first | exact evN_const rfl | exact rfl) (by first | exact evN_const rfl | exact rfl)) ?_) | (show Walk1 _ _ _ (⟨_, .indexAddr _ _ _, _, _, _, _⟩ :: _) _ _; first | refine walk1_t (op_idxP rfl rfl rfl rfl (by first | exact evK_const rfl | exact evK_tmp rfl) rfl rfl (by first | omega | decide) off_one) ?_) | (show Walk1 _ _ _ (⟨_, .load _ _, _, _, _, _⟩ :: _) _ _; first | refine walk1_t (op_load rfl rfl rfl rfl rfl rfl rfl) ?_) | (show Walk1 _ _ _ (⟨_, .call ⟨.builtin .append, _, _⟩, _, _, _, _⟩ :: _) _ _; first | refine walk1_g (op_appendB rfl rfl rfl rfl rfl rfl rfl rfl rfl) (by kernel_rfl) ?_) | (show Walk1 _ _ _ (⟨_, .buildSlice _ _ _, _, _, _, _⟩ :: _) _ _; first | refine walk1_n (op_bslice1 rfl rfl rfl rfl rfl rfl rfl rfl rfl rfl rfl (ce_one fun _ => rfl) (sm_l rfl) (by kernel_rfl)) (by kernel_rfl) ?_)) | refine tri_seq ?_ | refine tri_block ?_ | refine tri_scope ?_ | refine tri_skip ?_ | refine tri_label ?_ | refine tri_ret ?_ | refine tri_exit ?_ | refine end_seq ?_ | refine end_block_exit ?_ | refine end_block_other rfl ?_ | refine end_block ?_ | refine end_block_ret ?_ | refine end_then_exit ?_ | refine end_then_ret ?_ | refine end_then ?_ | refine end_scope (fun _ h => by cases h) ?_ | refine tri_reg ?_ | refine tri_draw ?_ | refine walk1_end ?_ | (refine walk_endD ?_ ?_; (· kernel_rfl)) | refine tri_yes rfl (by first | omega | (simp <;> fail) | assumption) ?_ | refine tri_no rfl (by first | omega | (simp <;> fail) | assumption) ?_ | refine tri_true rfl (by first | with_reducible rfl | with_reducible exact Bool.not_false | with_reducible assumption) ?_ | refine tri_false rfl (by first | with_reducible rfl | with_reducible exact Bool.not_true | with_reducible assumption) ?_)
    rw [hsn, ← hlen, ← hq1]
    exact hnx _ (i + 1) (by omega) (by omega) (ent_ren (fun n => cond (Nat.beq n 5) 16 n) (by repeat (first | exact hasTm_nil | refine hasTm_cons rfl (fun _ => rfl) ?_)) (by repeat (first | exact hasRm_nil | refine hasRm_cons rfl (fun _ => rfl) (fun _ _ h => h) rfl ?_)) (by kernel_rfl))
  · obtain rfl : i = 32 := by omega
    rw [List.take_of_length_le (by omega)]
    have hzl : (List.replicate 32 (0#8)).length = 32 := by simp
    repeat (first | (show Walk1 _ _ _ (_ :: _) _ _; first | (show Walk1 _ _ _ (⟨_, .move _, _, _, _, _⟩ :: _) _ _; first | refine walk1_t (op_move rfl rfl rfl rfl) ?_) | (show Walk1 _ _ _ (⟨_, .binOp .lss _ _ _ _, _, _, _, _⟩ :: _) _ _; first | refine walk1_t (op_ltN rfl rfl rfl (by first | exact evN_const rfl | exact rfl) (by first | exact evN_const rfl | exact rfl)) ?_) | (show Walk1 _ _ _ (⟨_, .load _ _, _, _, _, _⟩ :: _) _ _; first | refine walk1_t (op_loadsC rfl rfl rfl rfl rfl rfl rfl rfl (sm_c (by assumption)) ag_c) ?_) | (show Walk1 _ _ _ (⟨_, .store _ _ _, _, _, _, _⟩ :: _) _ _; first | refine walk1_b (op_stores rfl rfl rfl rfl rfl rfl rfl) ?_) | (show Walk1 _ _ _ (⟨_, .call ⟨.builtin .append, _, _⟩, _, _, _, _⟩ :: _) _ _; first | refine walk1_g (op_appendB rfl rfl rfl rfl rfl rfl rfl rfl rfl) (by kernel_rfl) ?_) | (show Walk1 _ _ _ (⟨_, .call ⟨.value (.func 59), _, _⟩, _, _, _, _⟩ :: _) _ _; first | (refine walk1_callO rfl rfl rfl rfl (by kernel_rfl) (by repeat (first | exact evs_nil | apply evs_cons rfl)) rfl ?_; refine ⟨_, _, _, _, _, callO_0  (fun e w  => cb w), ?_⟩)) | (show Walk1 _ _ _ (⟨_, .call ⟨.value (.func 31), _, _⟩, _, _, _, _⟩ :: _) _ _; first | (refine walk1_callM rfl rfl rfl rfl (by repeat (first | exact evs_nil | apply evs_cons rfl)) rfl ?_; refine ⟨_, _, callM_1 (rdn_own rfl) (fun e w h1 => cs _ _ w h1), ?_⟩))) | refine tri_seq ?_ | refine tri_block ?_ | refine tri_scope ?_ | refine tri_skip ?_ | refine tri_label ?_ | refine tri_ret ?_ | refine tri_exit ?_ | refine end_seq ?_ | refine end_block_exit ?_ | refine end_block_other rfl ?_ | refine end_block ?_ | refine end_block_ret ?_ | refine end_then_exit ?_ | refine end_then_ret ?_ | refine end_then ?_ | refine end_scope (fun _ h => by cases h) ?_ | refine tri_reg ?_ | refine tri_draw ?_ | refine walk1_end ?_ | (refine walk_endD ?_ ?_; (· kernel_rfl)) | refine tri_yes rfl (by first | omega | (simp <;> fail) | assumption) ?_ | refine tri_no rfl (by first | omega | (simp <;> fail) | assumption) ?_ | refine tri_true rfl (by first | with_reducible rfl | with_reducible exact Bool.not_false | with_reducible assumption) ?_ | refine tri_false rfl (by first | with_reducible rfl | with_reducible exact Bool.not_true | with_reducible assumption) ?_)
    refine end_ret _ (res_cells rfl rfl rfl rfl rfl rfl (sm_vals (by omega)) ag_c) ?_
    exact fin_below fun _ => rfl
theorem refStart_any (layer : Int) (hl : okI layer) (w : World) : Calls Try.prog 61 #[.int .i64 layer] w fun r w' => r = .returned (.agg (vals .u8 (startL layer))) ∧ Below w.heap.size w w' := by
  have hz : ∀ z ∈ [layer], okI z := fun z hz => by rw [List.mem_singleton] at hz; rw [hz]; exact hl
  have hpl : (startB layer).length = 25 := by rw [startB, List.length_append, putL_length]; rfl
  have cs := fun v n w h => refSum_any v n (startB layer) w h (by omega)
  have cg := fun v0 v w h h2 => refSigned_any v0 v 17 1 auditL [layer] w h (by decide) h2 hz (by simp)
  have hdl := shaL_length (startB layer)
  unfold startL
  generalize shaL (startB layer) = R at *
  have hB : startB layer = auditL ++ putL (sgL [layer]) := rfl
  rw [← hB] at cg
  clear hB
  generalize startB layer = B at *
  unfold auditL at cg
  refine calls_tri Try.func61 rfl Try.ntmps61 rfl ?_
  repeat (first | (show Walk1 _ _ _ (_ :: _) _ _; first | (show Walk1 _ _ _ (⟨_, .move _, _, _, _, _⟩ :: _) _ _; first | refine walk1_t (op_move rfl rfl rfl rfl) ?_) | (show Walk1 _ _ _ (⟨_, .assign _, _, _, _, _⟩ :: _) _ _; first | refine walk1_t (op_assign rfl rfl rfl rfl) ?_) | (show Walk1 _ _ _ (⟨_, .store _ _ _, _, _, _, _⟩ :: _) _ _; first | refine walk1_b (op_stores rfl rfl rfl rfl rfl rfl rfl) ?_) | (show Walk1 _ _ _ (⟨_, .alloc _, _, _, _, _⟩ :: _) _ _; first | refine walk1_n (op_allocV rfl rfl rfl rfl rfl rfl rfl) (by kernel_rfl) ?_) | (show Walk1 _ _ _ (⟨_, .extract _ _, _, _, _, _⟩ :: _) _ _; first | refine walk1_t (op_extract rfl rfl rfl rfl rfl) ?_) | (show Walk1 _ _ _ (⟨_, .convert _ _ _, _, _, _, _⟩ :: _) _ _; first | (first | refine walk1_tb (op_convSelf rfl rfl rfl rfl rfl rfl rfl) ?_ | refine walk1_b (op_convSelf rfl rfl rfl rfl rfl rfl rfl) ?_)) | (show Walk1 _ _ _ (⟨_, .buildSlice _ _ _, _, _, _, _⟩ :: _) _ _; first | refine walk1_n (op_bslice1 rfl rfl rfl rfl rfl rfl rfl rfl rfl rfl rfl (ce_one fun _ => rfl) (sm_l rfl) (by kernel_rfl)) (by kernel_rfl) ?_ | refine walk1_n (op_bsliceL rfl (by repeat (first | exact evl1_nil | apply evl1_cons rfl)) rfl rfl rfl rfl rfl rfl rfl rfl (by decide) (by repeat (first | exact ones_nil | apply ones_own rfl | apply ones_sub rfl | apply ones_one (fun _ => rfl))) (by kernel_rfl)) (by kernel_rfl) ?_) | (show Walk1 _ _ _ (⟨_, .call ⟨.value (.func 99), _, _⟩, _, _, _, _⟩ :: _) _ _; first | (refine walk1_callOT rfl rfl rfl rfl (by kernel_rfl) (by repeat (first | exact evs_nil | apply evs_cons rfl)) rfl ?_; refine ⟨_, _, _, _, _, _, callOT_2 ((show RdN _ _ _ 1 (SV.s 6 0 17 17) 17 _ from rdn_lit rfl (by repeat (first | exact litl_nil | apply litl_bv | refine litl_z rfl ?_)) rfl)) (rdn_ls [.int .i64 layer] rfl rfl) (fun e w h1 h2 => cg _ _ w h1 h2), ?_⟩)) | (show Walk1 _ _ _ (⟨_, .call ⟨.value (.func 31), _, _⟩, _, _, _, _⟩ :: _) _ _; first | (refine walk1_callM rfl rfl rfl rfl (by repeat (first | exact evs_nil | apply evs_cons rfl)) rfl ?_; refine ⟨_, _, callM_1 (rdn_own rfl) (fun e w h1 => cs _ _ w h1), ?_⟩))) | refine tri_seq ?_ | refine tri_block ?_ | refine tri_scope ?_ | refine tri_skip ?_ | refine tri_label ?_ | refine tri_ret ?_ | refine tri_exit ?_ | refine end_seq ?_ | refine end_block_exit ?_ | refine end_block_other rfl ?_ | refine end_block ?_ | refine end_block_ret ?_ | refine end_then_exit ?_ | refine end_then_ret ?_ | refine end_then ?_ | refine end_scope (fun _ h => by cases h) ?_ | refine tri_reg ?_ | refine tri_draw ?_ | refine walk1_end ?_ | (refine walk_endD ?_ ?_; (· kernel_rfl)) | refine tri_yes rfl (by first | omega | (simp <;> fail) | assumption) ?_ | refine tri_no rfl (by first | omega | (simp <;> fail) | assumption) ?_ | refine tri_true rfl (by first | with_reducible rfl | with_reducible exact Bool.not_false | with_reducible assumption) ?_ | refine tri_false rfl (by first | with_reducible rfl | with_reducible exact Bool.not_true | with_reducible assumption) ?_)
  refine end_ret _ (res_cells rfl rfl rfl rfl rfl rfl (sm_vals (by omega)) ag_c) ?_
  exact fin_below fun _ => rfl
end Go.Proofs.Ytkdflpdemoaifaa
