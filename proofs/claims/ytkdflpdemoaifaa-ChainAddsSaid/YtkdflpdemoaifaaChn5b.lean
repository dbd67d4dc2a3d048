/- A log: push walked. No condition. -/
import Derived.Test.YtkdflpdemoaifaaChn5
namespace Go.Proofs.Ytkdflpdemoaifaa
open Go.RowKit
set_option maxRecDepth 100000
set_option maxHeartbeats 4000000
section
variable {C : Ctx} {ops : Array Oper} {S : St} {o : Oper}
/-- A pointer to a block whose number is known, as that number. -/
theorem op_moveP {x : Operand} {n b : Nat} (q : Nat) (ho : o.op = .move x) (hg : o.guard = none) (hd : dstB o.dst C.nt = true) (hx : S.ev x = some (.p n 0)) (hq : S.res q = some (.is n b)) :
    OpG C Try.prog ops o S ⟨opT x, [q], dw o.dst (.c (.pointer (some ⟨b, 0, none⟩))), [], []⟩ := by
  have := op_value (C := C) (P := Try.prog) (ops := ops) (S := S) hg hd [x] [q] (.c (.pointer (some ⟨b, 0, none⟩))) fun S' e a w hS h1 h2 => by
    have hev : a.eval x = (SV.p n 0).den e := hS.ev ((h1 x (by simp)).trans hx)
    have hb : (e n).b = b := hS.res q _ ((h2 q (by simp)).trans hq)
    have hev : a.eval x = .pointer (some ⟨(e n).b, 0, none⟩) := hev
    rw [hb] at hev
    simp [execOp, ho, hev, SV.c]
  simpa using this
theorem op_nilQ {x : Operand} {n b : Nat} (q : Nat) (ho : o.op = .nilCheck x) (hg : o.guard = none) (hd : dstB o.dst C.nt = true) (hx : S.ev x = some (.c (.pointer (some ⟨b, 0, none⟩)))) (hq : S.res q = some (.is n b)) :
    OpG C Try.prog ops o S ⟨opT x, [q, n], dw o.dst (.p n 0), [], []⟩ := by
  have := op_value (C := C) (P := Try.prog) (ops := ops) (S := S) hg hd [x] [q, n] (.p n 0) fun S' e a w hS h1 h2 => by
    have hev : a.eval x = .pointer (some ⟨b, 0, none⟩) := hS.ev ((h1 x (by simp)).trans hx)
    have hb : (e n).b = b := hS.res q _ ((h2 q (by simp)).trans hq)
    have hden : (SV.p n 0).den e = .pointer (some ⟨b, 0, none⟩) := by rw [← hb]; rfl
    rw [hden]
    simp [execOp, ho, hev]
  simpa using this
end
attribute [local irreducible] Calls Walk1 WalkTo Tri EndA
theorem chPush_any (s : LgS) (v : Value) (w : World) (b : Nat) (hs : s.hd.length = 32) (e : Ent32) (he : e.ok) (hB : Blk w b (logC s v) 91) : Calls Try.prog 102 #[.pointer (some ⟨b, 0, none⟩), .agg (entC e).toArray] w (RetP w b 91 (logC (addS s e) v) (.tuple #[])) := by
  have cn := fun w => chNext_any s.hd hs e he w
  have hnl := nextL_length s.hd e
  unfold addS
  obtain ⟨hd, clk, es⟩ := s
  have hs : hd.length = 32 := hs
  simp only at *
  generalize nextL hd e = R at *
  have hel := entC_length e he
  have hclk : (entC e).toArray[1]? = some (.int .u32 (bvi e.clk)) := rfl
  have hsz : (entC e).toArray.size = 36 := by rw [List.size_toArray]; exact hel
  generalize (entC e).toArray = E at *
  refine calls_triP (b := b) (91) (logA0 ⟨hd, clk, es⟩ v) Try.func102 rfl Try.ntmps102 rfl rfl (hB) (fun _ => rfl) ?_
  simp only [logA0]
  repeat (first | (show Walk1 _ _ _ (_ :: _) _ _; first | (show Walk1 _ _ _ (⟨_, .box _ _, _, _, _, _⟩ :: _) _ _; first | refine walk1_n (op_box rfl rfl rfl rfl rfl) (by kernel_rfl) ?_)) | (show WalkTo _ _ _ _ (_ :: _) _ _ _; first | (show WalkTo _ _ _ _ (⟨_, .move _, _, _, _, _⟩ :: _) _ _ _; first | refine walk_t (op_moveP 1001 rfl rfl rfl rfl rfl) ?_) | (show WalkTo _ _ _ _ (⟨_, .load _ _, _, _, _, _⟩ :: _) _ _ _; first | refine walk_t (op_loadsM rfl rfl rfl rfl rfl rfl rfl rfl) ?_ | refine walk_t (op_load rfl rfl rfl rfl rfl rfl rfl (ld_any (by with_reducible assumption))) ?_ | refine walk_t (op_loadsC rfl rfl rfl rfl rfl rfl rfl rfl (sm_c (by assumption)) ag_c) ?_) | (show WalkTo _ _ _ _ (⟨_, .store _ _ _, _, _, _, _⟩ :: _) _ _ _; first | refine walk_b (op_store rfl rfl rfl rfl rfl rfl rfl) ?_ | refine walk_b (op_storesM rfl rfl rfl rfl rfl rfl rfl) ?_) | (show WalkTo _ _ _ _ (⟨_, .nilCheck _, _, _, _, _⟩ :: _) _ _ _; first | refine walk_t (op_nilQ 1001 rfl rfl rfl rfl rfl) ?_) | (show WalkTo _ _ _ _ (⟨_, .fieldAddr _ _ _, _, _, _, _⟩ :: _) _ _ _; first | refine walk_t (op_fldT rfl rfl rfl rfl rfl rfl off_zero) ?_) | (show WalkTo _ _ _ _ (⟨_, .call ⟨.value (.func 55), _, _⟩, _, _, _, _⟩ :: _) _ _ _; first | ((first | refine walk_call rfl rfl rfl rfl (by repeat (first | exact evs_nil | apply evs_cons rfl)) rfl ?_ | refine walk_call0 rfl rfl rfl (by repeat (first | exact evs_nil | apply evs_cons rfl)) rfl ?_); refine ⟨_, fun e w => cn w, ?_⟩))) | refine tri_seq ?_ | refine tri_block ?_ | refine tri_scope ?_ | refine tri_skip ?_ | refine tri_label ?_ | refine tri_ret ?_ | refine tri_exit ?_ | refine end_seq ?_ | refine end_block_exit ?_ | refine end_block_other rfl ?_ | refine end_block ?_ | refine end_block_ret ?_ | refine end_then_exit ?_ | refine end_then_ret ?_ | refine end_then ?_ | refine end_scope (fun _ h => by cases h) ?_ | refine tri_reg ?_ | refine tri_draw ?_ | refine walk1_end ?_ | (refine walk_endD ?_ ?_; (· kernel_rfl)) | refine tri_yes rfl (by first | omega | (simp <;> fail) | assumption) ?_ | refine tri_no rfl (by first | omega | (simp <;> fail) | assumption) ?_ | refine tri_true rfl (by first | with_reducible rfl | with_reducible exact Bool.not_false | with_reducible assumption) ?_ | refine tri_false rfl (by first | with_reducible rfl | with_reducible exact Bool.not_true | with_reducible assumption) ?_)
  refine end_normal (.c (.tuple #[])) (res_none rfl) ?_
  exact fin_obj rfl rfl (fun _ => rfl) (fun _ => rfl)
end Go.Proofs.Ytkdflpdemoaifaa
