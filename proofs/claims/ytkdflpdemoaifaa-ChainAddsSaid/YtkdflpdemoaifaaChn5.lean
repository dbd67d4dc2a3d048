/- A log: New, none, push, Add, Head walked. No condition. -/
import Derived.Test.YtkdflpdemoaifaaChn4
import Derived.Test.YtkdflpdemoaifaaSymX
namespace Go.Proofs.Ytkdflpdemoaifaa
open Go.RowKit
set_option maxRecDepth 100000
set_option maxHeartbeats 4000000
/-- A log: its head, its clock, its entries. -/
structure LgS where
  hd : List (BitVec 8)
  clk : BitVec 32
  es : List Ent32
def LgS.ok (s : LgS) : Prop := s.hd.length = 32 ∧ s.es.length ≤ 1000 ∧ ∀ e ∈ s.es, e.ok
def newS (layer : Int) : LgS := ⟨startL layer, 0#32, []⟩
def mkE (s : LgS) (c : BitVec 32) (who err : Int) (sum : List (BitVec 8)) : Ent32 := ⟨(s.es.length : Nat), if c.toNat < s.clk.toNat then s.clk else c, who, err, sum⟩
def addS (s : LgS) (e : Ent32) : LgS := ⟨nextL s.hd e, e.clk, s.es ++ [e]⟩
def logA (s : LgS) (q : Nat) : SA := (SA.c (vals .u8 s.hd)).app (SA.l [SV.c (.int .u32 (bvi s.clk)), SV.c (.bool true), SV.v q])
def logC (s : LgS) (v : Value) : Array Value := vals .u8 s.hd ++ #[.int .u32 (bvi s.clk), .bool true, v]
def logA0 (s : LgS) (v : Value) : SA := (SA.c (vals .u8 s.hd)).app (SA.l [SV.c (.int .u32 (bvi s.clk)), SV.c (.bool true), SV.c v])
def entsC (es : List Ent32) : List Value := es.flatMap entC
def logK (s : LgS) : World → Value → Prop := ownK 74 36 s.es.length (entsC s.es)
theorem entC_one (e : Ent32) : ∀ u ∈ entC e, u.oneCell' = true := by
  intro u hu
  simp only [entC, List.mem_append, List.mem_cons, List.not_mem_nil, or_false] at hu
  rcases hu with (rfl | rfl | rfl | rfl) | hu
  · rfl
  · rfl
  · rfl
  · rfl
  · obtain ⟨x, _, rfl⟩ := List.mem_map.1 hu
    rfl
theorem entC_all (e : Ent32) : (entC e).toArray.all (·.oneCell') = true := by
  rw [List.all_toArray, List.all_eq_true]
  exact entC_one e
theorem nextL_length (h : List (BitVec 8)) (e : Ent32) : (nextL h e).length = 32 := shaL_length _
theorem startL_length (l : Int) : (startL l).length = 32 := shaL_length _
attribute [local irreducible] Calls Walk1 WalkTo Tri EndA
theorem chNew_any (layer : Int) (hl : okI layer) (w : World) : Calls Try.prog 63 #[.int .i64 layer] w (RetNL w 91 (logC (newS layer)) (logK (newS layer))) := by
  have cs := fun w => chStart_any layer hl w
  have hn := startL_length layer
  unfold newS
  generalize startL layer = R at *
  refine calls_tri Try.func63 rfl Try.ntmps63 rfl ?_
  repeat (first | (show Walk1 _ _ _ (_ :: _) _ _; first | (show Walk1 _ _ _ (⟨_, .move _, _, _, _, _⟩ :: _) _ _; first | refine walk1_t (op_move rfl rfl rfl rfl) ?_) | (show Walk1 _ _ _ (⟨_, .assign _, _, _, _, _⟩ :: _) _ _; first | refine walk1_t (op_assign rfl rfl rfl rfl) ?_) | (show Walk1 _ _ _ (⟨_, .box _ _, _, _, _, _⟩ :: _) _ _; first | refine walk1_n (op_box rfl rfl rfl rfl rfl) (by kernel_rfl) ?_) | (show Walk1 _ _ _ (⟨_, .build _ _, _, _, _, _⟩ :: _) _ _; first | refine walk1_t (op_buildS rfl rfl rfl rfl) ?_) | (show Walk1 _ _ _ (⟨_, .call ⟨.value (.func 56), _, _⟩, _, _, _, _⟩ :: _) _ _; first | ((first | refine walk1_call rfl rfl rfl rfl (by repeat (first | exact evs_nil | apply evs_cons rfl)) rfl ?_ | refine walk1_call0 rfl rfl rfl (by repeat (first | exact evs_nil | apply evs_cons rfl)) rfl ?_); refine ⟨_, fun e w => cs w, ?_⟩))) | refine tri_seq ?_ | refine tri_block ?_ | refine tri_scope ?_ | refine tri_skip ?_ | refine tri_label ?_ | refine tri_ret ?_ | refine tri_exit ?_ | refine end_seq ?_ | refine end_block_exit ?_ | refine end_block_other rfl ?_ | refine end_block ?_ | refine end_block_ret ?_ | refine end_then_exit ?_ | refine end_then_ret ?_ | refine end_then ?_ | refine end_scope (fun _ h => by cases h) ?_ | refine tri_reg ?_ | refine tri_draw ?_ | refine walk1_end ?_ | (refine walk_endD ?_ ?_; (· kernel_rfl)) | refine tri_yes rfl (by first | omega | (simp <;> fail) | assumption) ?_ | refine tri_no rfl (by first | omega | (simp <;> fail) | assumption) ?_ | refine tri_true rfl (by first | with_reducible rfl | with_reducible exact Bool.not_false | with_reducible assumption) ?_ | refine tri_false rfl (by first | with_reducible rfl | with_reducible exact Bool.not_true | with_reducible assumption) ?_)
  refine end_ret _ (res_tmp rfl rfl) ?_
  exact fin_newL0 rfl (fun w => ⟨rfl, .inl ⟨rfl, rfl⟩⟩) (fun _ => by simp [SA.app, SA.c, SA.l, SV.c, logC]; rfl)
theorem chNone_any (s : LgS) (v : Value) (w : World) (b : Nat) (hs : s.hd.length = 32) (hB : Blk w b (logC s v) 91) : Calls Try.prog 100 #[.pointer (some ⟨b, 0, none⟩)] w (RetP w b 91 (logC s v) (.bool false)) := by
  obtain ⟨hd, clk, es⟩ := s
  have hs : hd.length = 32 := hs
  refine calls_triP (b := b) (91) (logA0 ⟨hd, clk, es⟩ v) Try.func100 rfl Try.ntmps100 rfl rfl (hB) (fun _ => rfl) ?_
  simp only [logA0]
  repeat (first | (show Walk1 _ _ _ (_ :: _) _ _; first | (show Walk1 _ _ _ (⟨_, _, _, _, _, some _⟩ :: _) _ _; first | refine walk1_yes rfl rfl (by first | exact decide_eq_true (by omega) | exact decide_eq_false (by omega) | rfl | (show _ = true; with_reducible assumption) | (show _ = false; with_reducible assumption) | (simp <;> fail) | omega) ?_) | (show Walk1 _ _ _ (⟨_, .move _, _, _, _, _⟩ :: _) _ _; first | refine walk1_t (op_move rfl rfl rfl rfl) ?_) | (show Walk1 _ _ _ (⟨_, .assign _, _, _, _, _⟩ :: _) _ _; first | refine walk1_t (op_assign rfl rfl rfl rfl) ?_) | (show Walk1 _ _ _ (⟨_, .binOp .eql _ _ _ _, _, _, _, _⟩ :: _) _ _; first | refine walk1_t (op_eqNil rfl rfl rfl rfl rfl rfl) ?_) | (show Walk1 _ _ _ (⟨_, .pick _ _ _, _, _, _, _⟩ :: _) _ _; first | refine walk1_t (op_pickN rfl rfl rfl rfl (by first | exact decide_eq_true (by omega) | exact decide_eq_false (by omega) | rfl | (show _ = true; with_reducible assumption) | (show _ = false; with_reducible assumption) | (simp <;> fail) | omega) rfl) ?_) | (show Walk1 _ _ _ (⟨_, .unOp _ _ _, _, _, _, _⟩ :: _) _ _; first | refine walk1_t (op_not rfl rfl rfl rfl) ?_) | (show Walk1 _ _ _ (⟨_, .load _ _, _, _, _, _⟩ :: _) _ _; first | refine walk1_t (op_load rfl rfl rfl rfl rfl rfl rfl) ?_) | (show Walk1 _ _ _ (⟨_, .nilCheck _, _, _, _, _⟩ :: _) _ _; first | refine walk1_t (op_nilP rfl rfl rfl rfl) ?_) | (show Walk1 _ _ _ (⟨_, .fieldAddr _ _ _, _, _, _, _⟩ :: _) _ _; first | refine walk1_t (op_fldT rfl rfl rfl rfl rfl rfl off_zero) ?_)) | refine tri_seq ?_ | refine tri_block ?_ | refine tri_scope ?_ | refine tri_skip ?_ | refine tri_label ?_ | refine tri_ret ?_ | refine tri_exit ?_ | refine end_seq ?_ | refine end_block_exit ?_ | refine end_block_other rfl ?_ | refine end_block ?_ | refine end_block_ret ?_ | refine end_then_exit ?_ | refine end_then_ret ?_ | refine end_then ?_ | refine end_scope (fun _ h => by cases h) ?_ | refine tri_reg ?_ | refine tri_draw ?_ | refine walk1_end ?_ | (refine walk_endD ?_ ?_; (· kernel_rfl)) | refine tri_yes rfl (by first | omega | (simp <;> fail) | assumption) ?_ | refine tri_no rfl (by first | omega | (simp <;> fail) | assumption) ?_ | refine tri_true rfl (by first | with_reducible rfl | with_reducible exact Bool.not_false | with_reducible assumption) ?_ | refine tri_false rfl (by first | with_reducible rfl | with_reducible exact Bool.not_true | with_reducible assumption) ?_)
  refine end_ret (.c (.bool false)) (res_tmp rfl rfl) ?_
  exact fin_obj rfl rfl (fun _ => rfl) (fun _ => rfl)
theorem chLogHead_any (s : LgS) (v : Value) (w : World) (b : Nat) (hs : s.hd.length = 32) (hB : Blk w b (logC s v) 91) : Calls Try.prog 69 #[.pointer (some ⟨b, 0, none⟩)] w (RetP w b 91 (logC s v) (.agg (vals .u8 s.hd))) := by
  have cn := fun w b hB => chNone_any s v w b hs hB
  obtain ⟨hd, clk, es⟩ := s
  have hs : hd.length = 32 := hs
  refine calls_triP (b := b) (91) (logA0 ⟨hd, clk, es⟩ v) Try.func69 rfl Try.ntmps69 rfl rfl (hB) (fun _ => rfl) ?_
  simp only [logA0]
  repeat (first | (show Walk1 _ _ _ (_ :: _) _ _; first | (show Walk1 _ _ _ (⟨_, .move _, _, _, _, _⟩ :: _) _ _; first | refine walk1_t (op_move rfl rfl rfl rfl) ?_) | (show Walk1 _ _ _ (⟨_, .load _ _, _, _, _, _⟩ :: _) _ _; first | refine walk1_t (op_loadsM rfl rfl rfl rfl rfl rfl rfl rfl) ?_) | (show Walk1 _ _ _ (⟨_, .store _ _ _, _, _, _, _⟩ :: _) _ _; first | refine walk1_b (op_stores rfl rfl rfl rfl rfl rfl rfl) ?_) | (show Walk1 _ _ _ (⟨_, .alloc _, _, _, _, _⟩ :: _) _ _; first | refine walk1_n (op_allocV rfl rfl rfl rfl rfl rfl rfl) (by kernel_rfl) ?_) | (show Walk1 _ _ _ (⟨_, .nilCheck _, _, _, _, _⟩ :: _) _ _; first | refine walk1_t (op_nilP rfl rfl rfl rfl) ?_) | (show Walk1 _ _ _ (⟨_, .fieldAddr _ _ _, _, _, _, _⟩ :: _) _ _; first | refine walk1_t (op_fldT rfl rfl rfl rfl rfl rfl off_zero) ?_) | (show Walk1 _ _ _ (⟨_, .call ⟨.value (.func 100), _, _⟩, _, _, _, _⟩ :: _) _ _; first | ((first | refine walk1_callPE ((SA.c (vals .u8 hd)).app (SA.l [SV.c (.int .u32 (bvi clk)), SV.c (.bool true), SV.c v])) rfl rfl rfl rfl (by repeat (first | exact evs_nil | apply evs_cons rfl)) rfl rfl rfl ?_ | refine walk1_callPE0 ((SA.c (vals .u8 hd)).app (SA.l [SV.c (.int .u32 (bvi clk)), SV.c (.bool true), SV.c v])) rfl rfl rfl (by repeat (first | exact evs_nil | apply evs_cons rfl)) rfl rfl rfl ?_); refine ⟨_, _, callPE_0 rfl (fun e w h => cn w _ h), ?_⟩))) | refine tri_seq ?_ | refine tri_block ?_ | refine tri_scope ?_ | refine tri_skip ?_ | refine tri_label ?_ | refine tri_ret ?_ | refine tri_exit ?_ | refine end_seq ?_ | refine end_block_exit ?_ | refine end_block_other rfl ?_ | refine end_block ?_ | refine end_block_ret ?_ | refine end_then_exit ?_ | refine end_then_ret ?_ | refine end_then ?_ | refine end_scope (fun _ h => by cases h) ?_ | refine tri_reg ?_ | refine tri_draw ?_ | refine walk1_end ?_ | (refine walk_endD ?_ ?_; (· kernel_rfl)) | refine tri_yes rfl (by first | omega | (simp <;> fail) | assumption) ?_ | refine tri_no rfl (by first | omega | (simp <;> fail) | assumption) ?_ | refine tri_true rfl (by first | with_reducible rfl | with_reducible exact Bool.not_false | with_reducible assumption) ?_ | refine tri_false rfl (by first | with_reducible rfl | with_reducible exact Bool.not_true | with_reducible assumption) ?_)
  refine end_ret _ (res_cells rfl rfl rfl rfl rfl rfl (sm_vals (by omega)) ag_c) ?_
  exact fin_obj rfl rfl (fun _ => rfl) (fun _ => rfl)
end Go.Proofs.Ytkdflpdemoaifaa
