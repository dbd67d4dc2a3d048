/- codec's Reader: Err, End, Take of some bytes; New. No condition. The document's Reader: Take, Num: walked. No condition. The document's Reader: Num: walked. No condition. -/
import Derived.Test.YtlhedoodbadmgaaRecDB
import Derived.Test.YtlhedoodbadmgaaRecQ2
import Derived.Test.YtlhedoodbadmgaaSymAG
namespace Go.Proofs.Ytlhedoodbadmgaa
open Go.RowKit
set_option maxRecDepth 100000
set_option maxHeartbeats 1000000
def endR (a : RdS) : Int := if a.e = 0 then (if 0 < a.rest.length then 5 else 0) else a.e
attribute [local irreducible] Calls Walk1 WalkTo Tri EndA
theorem err_any (v : Value) (e : Int) (w : World) (b : Nat) (hB : Blk w b (rdC v e) 143) : Calls Try.prog 51 #[.pointer (some ⟨b, 0, none⟩)] w (RetP w b 143 (rdC v e) (.int .i64 e)) := by
  have cn := fun w b h => rdNone_any v e w b h
  refine calls_triP (b := b) (143) (.l [.c v, .c (.int .i64 e), .c (.bool true)]) Try.func51 rfl Try.ntmps51 rfl rfl (hB) (fun _ => rfl) ?_
  simp only [rdC] at *
  repeat (first | (show Walk1 _ _ _ (_ :: _) _ _; first | (show Walk1 _ _ _ (⟨_, .move _, _, _, _, _⟩ :: _) _ _; refine walk1_t (op_move rfl rfl rfl rfl) ?_) | (show Walk1 _ _ _ (⟨_, .assign _, _, _, _, _⟩ :: _) _ _; first | refine walk1_t (op_assignN rfl rfl rfl rfl) ?_ | refine walk1_t (op_assign rfl rfl rfl rfl) ?_) | (show Walk1 _ _ _ (⟨_, .load _ _, _, _, _, _⟩ :: _) _ _; refine walk1_t (op_load rfl rfl rfl rfl rfl rfl rfl) ?_) | (show Walk1 _ _ _ (⟨_, .nilCheck _, _, _, _, _⟩ :: _) _ _; refine walk1_t (op_nilP rfl rfl rfl rfl) ?_) | (show Walk1 _ _ _ (⟨_, .fieldAddr _ _ _, _, _, _, _⟩ :: _) _ _; refine walk1_t (op_fldT rfl rfl rfl rfl rfl rfl off_zero) ?_) | (show Walk1 _ _ _ (⟨_, .call ⟨.value (.func 72), _, _⟩, _, _, _, _⟩ :: _) _ _; ((first | refine walk1_callP (.l [.c v, .c (.int .i64 e), .c (.bool true)]) rfl rfl rfl rfl (by repeat (first | exact evs_nil | apply evs_cons rfl)) rfl rfl rfl ?_ | refine walk1_callP0 (.l [.c v, .c (.int .i64 e), .c (.bool true)]) rfl rfl rfl (by repeat (first | exact evs_nil | apply evs_cons rfl)) rfl rfl rfl ?_); refine ⟨_, _, _, callP_0 (cells0 := #[v, .int .i64 e, .bool true]) rfl (fun _ => rfl) (fun e w h => cn w _ h), (fun _ => rfl), ?_⟩))) | refine go1 ?_ | refine end_block_other rfl ?_ | refine end_scope (fun _ h => by cases h) ?_ | (refine walk_endD ?_ ?_; (· kernel_rfl)) | refine tri_yesA rfl ?_ | refine tri_noA rfl ?_ | refine tri_trueA rfl ?_ | refine tri_falseA rfl ?_)
  refine end_ret _ (res_tmp rfl rfl) ?_
  exact fin_obj rfl rfl (fun _ => rfl) (fun _ => rfl)
theorem end_any (a : Option Addr) (n c : Nat) (e : Int) (w : World) (b : Nat) (hB : Blk w b (rdC (.slice a n c) e) 143) : Calls Try.prog 53 #[.pointer (some ⟨b, 0, none⟩)] w (RetP w b 143 (rdC (.slice a n c) e) (.int .i64 (if e = 0 then (if 0 < n then 5 else 0) else e))) := by
  have cn := fun w b h => err_any (.slice a n c) e w b h
  by_cases he : e = 0
  · subst he
    rw [if_pos rfl]
    by_cases hn : 0 < n
    · rw [if_pos hn]
      refine calls_triP (b := b) (143) (.l [.c (.slice a n c), .c (.int .i64 0), .c (.bool true)]) Try.func53 rfl Try.ntmps53 rfl rfl (hB) (fun _ => rfl) ?_
      simp only [rdC] at *
      repeat (first | (show Walk1 _ _ _ (_ :: _) _ _; first | (show Walk1 _ _ _ (⟨_, .move _, _, _, _, _⟩ :: _) _ _; refine walk1_t (op_move rfl rfl rfl rfl) ?_) | (show Walk1 _ _ _ (⟨_, .assign _, _, _, _, _⟩ :: _) _ _; first | refine walk1_t (op_assignN rfl rfl rfl rfl) ?_ | refine walk1_t (op_assign rfl rfl rfl rfl) ?_) | (show Walk1 _ _ _ (⟨_, .binOp .gtr _ _ _ _, _, _, _, _⟩ :: _) _ _; refine walk1_t (op_gtN rfl rfl rfl (by first | exact evN_const rfl | exact rfl) (by first | exact evN_const rfl | exact rfl)) ?_) | (show Walk1 _ _ _ (⟨_, .binOp .neq _ _ _ _, _, _, _, _⟩ :: _) _ _; refine walk1_t (op_neN rfl rfl rfl (by first | exact evN_const rfl | exact rfl) (by first | exact evN_const rfl | exact rfl)) ?_) | (show Walk1 _ _ _ (⟨_, .load _ _, _, _, _, _⟩ :: _) _ _; refine walk1_t (op_load rfl rfl rfl rfl rfl rfl rfl) ?_) | (show Walk1 _ _ _ (⟨_, .nilCheck _, _, _, _, _⟩ :: _) _ _; refine walk1_t (op_nilP rfl rfl rfl rfl) ?_) | (show Walk1 _ _ _ (⟨_, .fieldAddr _ _ _, _, _, _, _⟩ :: _) _ _; refine walk1_t (op_fldT rfl rfl rfl rfl rfl rfl off_zero) ?_) | (show Walk1 _ _ _ (⟨_, .call ⟨.builtin .len, _, _⟩, _, _, _, _⟩ :: _) _ _; refine walk1_t (op_lenC rfl rfl rfl) ?_) | (show Walk1 _ _ _ (⟨_, .call ⟨.value (.func 51), _, _⟩, _, _, _, _⟩ :: _) _ _; ((first | refine walk1_callP (.l [.c (.slice a n c), .c (.int .i64 0), .c (.bool true)]) rfl rfl rfl rfl (by repeat (first | exact evs_nil | apply evs_cons rfl)) rfl rfl rfl ?_ | refine walk1_callP0 (.l [.c (.slice a n c), .c (.int .i64 0), .c (.bool true)]) rfl rfl rfl (by repeat (first | exact evs_nil | apply evs_cons rfl)) rfl rfl rfl ?_); refine ⟨_, _, _, callP_0 (cells0 := #[.slice a n c, .int .i64 0, .bool true]) rfl (fun _ => rfl) (fun e w h => cn w _ h), (fun _ => rfl), ?_⟩))) | refine go1 ?_ | refine end_block_other rfl ?_ | refine end_scope (fun _ h => by cases h) ?_ | (refine walk_endD ?_ ?_; (· kernel_rfl)) | refine tri_yesA rfl ?_ | refine tri_noA rfl ?_ | refine tri_trueA rfl ?_ | refine tri_falseA rfl ?_)
      refine end_ret _ (res_tmp rfl rfl) ?_
      exact fin_obj rfl rfl (fun _ => rfl) (fun _ => rfl)
    · rw [if_neg hn]
      refine calls_triP (b := b) (143) (.l [.c (.slice a n c), .c (.int .i64 0), .c (.bool true)]) Try.func53 rfl Try.ntmps53 rfl rfl (hB) (fun _ => rfl) ?_
      simp only [rdC] at *
      repeat (first | (show Walk1 _ _ _ (_ :: _) _ _; first | (show Walk1 _ _ _ (⟨_, .move _, _, _, _, _⟩ :: _) _ _; refine walk1_t (op_move rfl rfl rfl rfl) ?_) | (show Walk1 _ _ _ (⟨_, .assign _, _, _, _, _⟩ :: _) _ _; first | refine walk1_t (op_assignN rfl rfl rfl rfl) ?_ | refine walk1_t (op_assign rfl rfl rfl rfl) ?_) | (show Walk1 _ _ _ (⟨_, .binOp .gtr _ _ _ _, _, _, _, _⟩ :: _) _ _; refine walk1_t (op_gtN rfl rfl rfl (by first | exact evN_const rfl | exact rfl) (by first | exact evN_const rfl | exact rfl)) ?_) | (show Walk1 _ _ _ (⟨_, .binOp .neq _ _ _ _, _, _, _, _⟩ :: _) _ _; refine walk1_t (op_neN rfl rfl rfl (by first | exact evN_const rfl | exact rfl) (by first | exact evN_const rfl | exact rfl)) ?_) | (show Walk1 _ _ _ (⟨_, .load _ _, _, _, _, _⟩ :: _) _ _; refine walk1_t (op_load rfl rfl rfl rfl rfl rfl rfl) ?_) | (show Walk1 _ _ _ (⟨_, .nilCheck _, _, _, _, _⟩ :: _) _ _; refine walk1_t (op_nilP rfl rfl rfl rfl) ?_) | (show Walk1 _ _ _ (⟨_, .fieldAddr _ _ _, _, _, _, _⟩ :: _) _ _; refine walk1_t (op_fldT rfl rfl rfl rfl rfl rfl off_zero) ?_) | (show Walk1 _ _ _ (⟨_, .call ⟨.builtin .len, _, _⟩, _, _, _, _⟩ :: _) _ _; refine walk1_t (op_lenC rfl rfl rfl) ?_) | (show Walk1 _ _ _ (⟨_, .call ⟨.value (.func 51), _, _⟩, _, _, _, _⟩ :: _) _ _; ((first | refine walk1_callP (.l [.c (.slice a n c), .c (.int .i64 0), .c (.bool true)]) rfl rfl rfl rfl (by repeat (first | exact evs_nil | apply evs_cons rfl)) rfl rfl rfl ?_ | refine walk1_callP0 (.l [.c (.slice a n c), .c (.int .i64 0), .c (.bool true)]) rfl rfl rfl (by repeat (first | exact evs_nil | apply evs_cons rfl)) rfl rfl rfl ?_); refine ⟨_, _, _, callP_0 (cells0 := #[.slice a n c, .int .i64 0, .bool true]) rfl (fun _ => rfl) (fun e w h => cn w _ h), (fun _ => rfl), ?_⟩))) | refine go1 ?_ | refine end_block_other rfl ?_ | refine end_scope (fun _ h => by cases h) ?_ | (refine walk_endD ?_ ?_; (· kernel_rfl)) | refine tri_yesA rfl ?_ | refine tri_noA rfl ?_ | refine tri_trueA rfl ?_ | refine tri_falseA rfl ?_)
      refine end_ret _ (res_tmp rfl rfl) ?_
      exact fin_obj rfl rfl (fun _ => rfl) (fun _ => rfl)
  · rw [if_neg he]
    have he1 : decide (e = 0) = false := by simpa using he
    have he2 : decide (e ≠ 0) = true := by simpa using he
    refine calls_triP (b := b) (143) (.l [.c (.slice a n c), .c (.int .i64 e), .c (.bool true)]) Try.func53 rfl Try.ntmps53 rfl rfl (hB) (fun _ => rfl) ?_
    simp only [rdC] at *
    repeat (first | (show Walk1 _ _ _ (_ :: _) _ _; first | (show Walk1 _ _ _ (⟨_, .move _, _, _, _, _⟩ :: _) _ _; refine walk1_t (op_move rfl rfl rfl rfl) ?_) | (show Walk1 _ _ _ (⟨_, .assign _, _, _, _, _⟩ :: _) _ _; first | refine walk1_t (op_assignN rfl rfl rfl rfl) ?_ | refine walk1_t (op_assign rfl rfl rfl rfl) ?_) | (show Walk1 _ _ _ (⟨_, .binOp .neq _ _ _ _, _, _, _, _⟩ :: _) _ _; refine walk1_t (op_neI rfl rfl rfl rfl rfl) ?_) | (show Walk1 _ _ _ (⟨_, .call ⟨.value (.func 51), _, _⟩, _, _, _, _⟩ :: _) _ _; ((first | refine walk1_callP (.l [.c (.slice a n c), .c (.int .i64 e), .c (.bool true)]) rfl rfl rfl rfl (by repeat (first | exact evs_nil | apply evs_cons rfl)) rfl rfl rfl ?_ | refine walk1_callP0 (.l [.c (.slice a n c), .c (.int .i64 e), .c (.bool true)]) rfl rfl rfl (by repeat (first | exact evs_nil | apply evs_cons rfl)) rfl rfl rfl ?_); refine ⟨_, _, _, callP_0 (cells0 := #[.slice a n c, .int .i64 e, .bool true]) rfl (fun _ => rfl) (fun e w h => cn w _ h), (fun _ => rfl), ?_⟩))) | refine go1 ?_ | refine end_block_other rfl ?_ | refine end_scope (fun _ h => by cases h) ?_ | (refine walk_endD ?_ ?_; (· kernel_rfl)) | refine tri_yesA rfl ?_ | refine tri_noA rfl ?_ | refine tri_trueA rfl ?_ | refine tri_falseA rfl ?_)
    refine end_ret _ (res_tmp rfl rfl) ?_
    exact fin_obj rfl rfl (fun _ => rfl) (fun _ => rfl)
theorem err_obj (s : RS) : ObjR rdO s.rd 51 (fun b => #[.pointer (some ⟨b, 0, none⟩)]) s s (.int .i64 s.e) := fun w b _ hok _ => rdO_of hok (err_any s.v s.e w b hok.1)
theorem end_obj (s : RS) : ObjR rdO s.rd 53 (fun b => #[.pointer (some ⟨b, 0, none⟩)]) s s (.int .i64 (endR s.abs)) := fun w b _ hok hrd => by
  refine rdO_of hok ?_
  obtain ⟨a, c, hv, _⟩ := (hrd w (BelowX.refl _ _)).2
  have hB := hok.1
  show Calls Try.prog _ _ w (RetP w b _ (rdC s.v s.e) (.int .i64 (if s.e = 0 then (if 0 < s.L.length then 5 else 0) else s.e)))
  rw [hv] at hB ⊢
  exact end_any a s.L.length c s.e w b hB
/-- What Take hands back. -/
def RS.tk (k : Nat) (s : RS) : Value := if s.e = 0 ∧ k ≤ s.L.length then cut3 s.v k else .slice none 0 0
def takeR (k : Nat) (a : RdS) : List (BitVec 8) := if a.e = 0 ∧ k ≤ a.rest.length then a.rest.take k else []
theorem RS.rd_tk {s : RS} {w : World} {m : List Nat} (k : Nat) (h : s.rd w m) : FSX w m 1 (s.tk k) (takeR k s.abs).length (valsL .u8 (takeR k s.abs)) := by
  unfold RS.tk takeR
  by_cases hk : s.e = 0 ∧ k ≤ s.L.length
  · have h2 : s.abs.e = 0 ∧ k ≤ s.abs.rest.length := hk
    rw [if_pos hk, if_pos h2]
    have h1 := FSX.cut3 h hk.2
    have h3 : (s.abs.rest.take k).length = k := by rw [List.length_take]; exact Nat.min_eq_left h2.2
    rw [h3]
    exact h1
  · have h2 : ¬ (s.abs.e = 0 ∧ k ≤ s.abs.rest.length) := hk
    rw [if_neg hk, if_neg h2]
    exact fun w' _ => ⟨⟨by simp [valsL], none, 0, rfl, .inl rfl⟩, none, 0, rfl, Nat.le_refl _⟩
theorem take_obj (k : Nat) (s : RS) : ObjR rdO s.rd 52 (fun b => #[.pointer (some ⟨b, 0, none⟩), .int .i64 (k : Int)]) s (s.nx k) (s.tk k) := by
  intro w b v hok hrd
  refine rdO_of hok ?_
  have hr : FSX w [b] 1 s.v s.L.length (valsL .u8 s.L) := fun w' hw => hrd w' (hw.more fun x hx => by rw [List.mem_singleton.1 hx]; exact List.mem_cons_self)
  have hc := hr.fs.2
  have hB := hok.1
  by_cases he : s.e = 0
  · by_cases hk : k ≤ s.L.length
    · have h1 := takeO_any k s.v s.L hk w b (by rw [← he]; exact hB) hr.rdx hc
      have h2 : s.nx k = ⟨cutV s.v k (s.L.length - k), s.L.drop k, 0⟩ := by unfold RS.nx; rw [if_pos he, if_pos hk]
      have h3 : s.tk k = cut3 s.v k := if_pos ⟨he, hk⟩
      rw [h2, h3]
      exact h1
    · have h1 := takeS_any k s.v s.L (by omega) w b (by rw [← he]; exact hB) hr.rdx hc
      have h2 : s.nx k = ⟨s.v, s.L, 4⟩ := by unfold RS.nx; rw [if_pos he, if_neg hk]
      have h3 : s.tk k = .slice none 0 0 := if_neg (fun h => hk h.2)
      rw [h2, h3]
      exact h1
  · have h1 := takeE_any k s.v s.e he w b hB
    have h2 : s.nx k = s := by unfold RS.nx; exact if_neg he
    have h3 : s.tk k = .slice none 0 0 := if_neg (fun h => he h.1)
    rw [h2, h3]
    exact h1
theorem rdNew_any (v : Value) (l : List (BitVec 8)) (w : World) (hv : RdV w 1 v l.length (valsL .u8 l)) (hn : l.length ≤ 1000000) : Calls Try.prog 47 #[v] w (RetNL w 143 (fun u => rdC u 0) (ownK 5 1 l.length (valsL .u8 l))) := by
  have cl := fun w h => cloneG_any v l w h hn
  refine calls_tri Try.func47 rfl Try.ntmps47 rfl ?_
  repeat (first | (show Walk1 _ _ _ (_ :: _) _ _; first | (show Walk1 _ _ _ (⟨_, .move _, _, _, _, _⟩ :: _) _ _; refine walk1_t (op_move rfl rfl rfl rfl) ?_) | (show Walk1 _ _ _ (⟨_, .assign _, _, _, _, _⟩ :: _) _ _; refine walk1_t (op_assign rfl rfl rfl rfl) ?_) | (show Walk1 _ _ _ (⟨_, .box _ _, _, _, _, _⟩ :: _) _ _; refine walk1_n (op_box rfl rfl rfl rfl rfl) (by kernel_rfl) ?_) | (show Walk1 _ _ _ (⟨_, .build _ _, _, _, _, _⟩ :: _) _ _; refine walk1_t (op_buildQ rfl rfl rfl rfl) ?_) | (show Walk1 _ _ _ (⟨_, .call ⟨.value (.func 66), _, _⟩, _, _, _, _⟩ :: _) _ _; (refine walk1_callO rfl rfl rfl rfl (by kernel_rfl) (by repeat (first | exact evs_nil | apply evs_cons rfl)) rfl ?_; refine ⟨_, _, _, _, _, callO_1 (rdn_old hv (by omega) rfl) (fun e w h1 => cl w h1), ?_⟩))) | refine go1 ?_ | refine end_block_other rfl ?_ | refine end_scope (fun _ h => by cases h) ?_ | (refine walk_endD ?_ ?_; (· kernel_rfl)) | refine tri_yesA rfl ?_ | refine tri_noA rfl ?_ | refine tri_trueA rfl ?_ | refine tri_falseA rfl ?_)
  refine end_ret (.p 6 0) (res_tmp rfl rfl) ?_
  exact fin_newL rfl rfl isOwn_own rfl (fun _ => rfl)
end Go.Proofs.Ytlhedoodbadmgaa
namespace Go.Proofs.Ytlhedoodbadmgaa
open Go.RowKit
set_option maxRecDepth 100000
set_option maxHeartbeats 1000000
attribute [local irreducible] Calls Walk1 WalkTo Tri EndA
end Go.Proofs.Ytlhedoodbadmgaa
namespace Go.Proofs.Ytlhedoodbadmgaa
open Go.RowKit
set_option maxRecDepth 100000
set_option maxHeartbeats 1000000
/-- The number that the bytes from some place on make. -/
def hv (T : List (BitVec 8)) (j : Nat) : BitVec 64 := BitVec.ofNat 64 (leN (T.drop j))
attribute [local irreducible] Calls Walk1 WalkTo Tri EndA
end Go.Proofs.Ytlhedoodbadmgaa
