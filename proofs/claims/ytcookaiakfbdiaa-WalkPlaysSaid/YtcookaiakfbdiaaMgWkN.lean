/- A walk that New did not make: walked. No condition. The example of chapter 22: walked. No condition. Whether a ray meets anything, by the document: walked. No condition. The nearest one, by the document: walked. No condition. -/
import Derived.Test.YtcookaiakfbdiaaMgWkH
import Derived.Test.YtcookaiakfbdiaaMgSwp11
namespace Go.Proofs.Ytcookaiakfbdiaa
open Go.RowKit
set_option maxRecDepth 100000
set_option maxHeartbeats 1000000
def deadWk : Array Value := #[.slice none 0 0, .slice none 0 0, .bool false, .slice none 0 0, .int .i64 0]
attribute [local irreducible] Calls Walk1 WalkTo Tri EndA
theorem deadNone22w_any (w : World) (b : Nat) (hB : Blk w b deadWk 59) : Calls Try.prog 36 #[.pointer (some ⟨b, 0, none⟩)] w (RetP w b 59 deadWk (.bool true)) := by
  refine calls_triP (b := b) (59) (.c deadWk) Try.func36 rfl Try.ntmps36 rfl rfl (hB) (fun _ => rfl) ?_
  simp only [deadWk]
  repeat (first | (show Walk1 _ _ _ (_ :: _) _ _; first | (show Walk1 _ _ _ (⟨_, _, _, _, _, some _⟩ :: _) _ _; refine zy1 ?_) | (show HW1 (.move _); refine wz1 ?_) | (show HW1 (.assign _); refine wz2 ?_) | (show HW1 (.binOp .eql _ _ _ _); refine wz76 ?_) | (show HW1 (.pick _ _ _); refine wz7 ?_) | (show HW1 (.unOp _ _ _); refine wz19 ?_) | (show HW1 (.load _ _); refine wz3 ?_) | (show HW1 (.nilCheck _); refine wz29 ?_) | (show HW1 (.fieldAddr _ _ _); refine wz4 ?_)) | refine go1 ?_ | refine end_block_other rfl ?_ | refine end_scope (fun _ h => by cases h) ?_ | (refine walk_endD ?_ ?_; (· kernel_rfl)) | refine tri_yesA rfl ?_ | refine tri_noA rfl ?_ | refine tri_trueA rfl ?_ | refine tri_falseA rfl ?_)
  refine end_ret (.c (.bool true)) (res_tmp rfl rfl) ?_
  exact fin_obj rfl rfl (fun _ => rfl) (fun _ => rfl)
theorem deadNear22w_any (o d : P3) (mask : BitVec 8) (skip : Int) (w : World) (b : Nat) (hB : Blk w b deadWk 59) : Calls Try.prog 15 #[.pointer (some ⟨b, 0, none⟩), .agg o.c, .agg d.c, .int .u8 (bvi mask), .int .i64 skip] w (RetP w b 59 deadWk (.tuple #[.int .i64 (-1), .agg zM.c])) := by
  have cn := fun w b h => deadNone22w_any w b h
  have hos : o.c.size = 3 := rfl
  have hds : d.c.size = 3 := rfl
  have z3 : zM.c.size = 4 := rfl
  have hzc : zM.c = #[.int .i64 0, .int .i64 0, .int .i64 0, .int .i64 0] := rfl
  rw [hzc] at *
  generalize o.c = OC at *
  generalize d.c = DC at *
  refine calls_triP (b := b) (59) (.c deadWk) Try.func15 rfl Try.ntmps15 rfl rfl (hB) (fun _ => rfl) ?_
  repeat (first | (show Walk1 _ _ _ (_ :: _) _ _; first | (show Walk1 _ _ _ (⟨_, _, _, _, _, some _⟩ :: _) _ _; refine zn1 ?_) | (show HW1 (.move _); refine wz1 ?_) | (show HW1 (.assign _); first | refine wz13 ?_ | refine wz2 ?_) | (show HW1 (.pick _ _ _); refine wz8 ?_) | (show HW1 (.alloc _); refine wz6 ?_) | (show HW1 (.box _ _); refine wz11 ?_) | (show HW1 (.call ⟨.value (.func 36), _, _⟩); ((first | refine walk1_callP (.c deadWk) rfl rfl rfl rfl evq rfl rfl rfl ?_ | refine walk1_callP0 (.c deadWk) rfl rfl rfl evq rfl rfl rfl ?_); refine ⟨_, _, _, callP_0 (cells0 := deadWk) rfl (fun _ => rfl) (fun e w h => cn w _ h), (fun _ => rfl), ?_⟩))) | (show WalkTo _ _ _ _ (_ :: _) _ _ _; first | (show HW2 (.move _); refine wz20 ?_) | (show HW2 (.assign _); refine wz17 ?_) | (show HW2 (.load _ _); refine wz22 ?_) | (show HW2 (.store _ _ _); refine wz48 ?_)) | refine go1 ?_ | refine end_block_other rfl ?_ | refine end_scope (fun _ h => by cases h) ?_ | (refine walk_endD ?_ ?_; (· kernel_rfl)) | refine tri_yesA rfl ?_ | refine tri_noA rfl ?_ | refine tri_trueA rfl ?_ | refine tri_falseA rfl ?_)
  refine end_ret (.c (.tuple #[.int .i64 (-1), .agg #[.int .i64 0, .int .i64 0, .int .i64 0, .int .i64 0]])) (res_tmpC rfl rfl rfl rfl rfl rfl rfl z3) ?_
  exact fin_obj rfl rfl (fun _ => rfl) (fun _ => rfl)
theorem deadSteps22w_any (w : World) (b : Nat) (hB : Blk w b deadWk 59) : Calls Try.prog 20 #[.pointer (some ⟨b, 0, none⟩)] w (RetP w b 59 deadWk (.int .i64 0)) := by
  have cn := fun w b h => deadNone22w_any w b h
  refine calls_triP (b := b) (59) (.c deadWk) Try.func20 rfl Try.ntmps20 rfl rfl (hB) (fun _ => rfl) ?_
  repeat (first | (show Walk1 _ _ _ (_ :: _) _ _; first | (show HW1 (.move _); refine wz1 ?_) | (show HW1 (.assign _); refine wz13 ?_) | (show HW1 (.call ⟨.value (.func 36), _, _⟩); ((first | refine walk1_callP (.c deadWk) rfl rfl rfl rfl evq rfl rfl rfl ?_ | refine walk1_callP0 (.c deadWk) rfl rfl rfl evq rfl rfl rfl ?_); refine ⟨_, _, _, callP_0 (cells0 := deadWk) rfl (fun _ => rfl) (fun e w h => cn w _ h), (fun _ => rfl), ?_⟩))) | refine go1 ?_ | refine end_block_other rfl ?_ | refine end_scope (fun _ h => by cases h) ?_ | (refine walk_endD ?_ ?_; (· kernel_rfl)) | refine tri_yesA rfl ?_ | refine tri_noA rfl ?_ | refine tri_trueA rfl ?_ | refine tri_falseA rfl ?_)
  refine end_ret (.c (.int .i64 0)) (res_tmp rfl rfl) ?_
  exact fin_obj rfl rfl (fun _ => rfl) (fun _ => rfl)
theorem nullNone22w_any (w : World) : Calls Try.prog 36 #[.pointer none] w fun e w' => e = .returned (.bool true) ∧ Below w.heap.size w w' := by
  refine calls_tri Try.func36 rfl Try.ntmps36 rfl ?_
  repeat (first | (show Walk1 _ _ _ (_ :: _) _ _; first | (show Walk1 _ _ _ (⟨_, _, _, _, _, some _⟩ :: _) _ _; refine zn1 ?_) | (show HW1 (.move _); refine wz1 ?_) | (show HW1 (.assign _); refine wz2 ?_) | (show HW1 (.binOp .eql _ _ _ _); refine wz126 ?_) | (show HW1 (.pick _ _ _); refine wz8 ?_)) | refine go1 ?_ | refine end_block_other rfl ?_ | refine end_scope (fun _ h => by cases h) ?_ | (refine walk_endD ?_ ?_; (· kernel_rfl)) | refine tri_yesA rfl ?_ | refine tri_noA rfl ?_ | refine tri_trueA rfl ?_ | refine tri_falseA rfl ?_)
  refine end_ret (.c (.bool true)) (res_tmp rfl rfl) ?_
  exact fin_below fun _ => rfl
theorem nullAny22w_any (o d : P3) (mask : BitVec 8) (skip : Int) (near : Bool) (w : World) : Calls Try.prog 17 #[.pointer none, .agg o.c, .agg d.c, .int .u8 (bvi mask), .int .i64 skip, .bool near] w fun e w' => e = .returned (.bool false) ∧ Below w.heap.size w w' := by
  have cn := fun w => nullNone22w_any w
  have hos : o.c.size = 3 := rfl
  have hds : d.c.size = 3 := rfl
  generalize o.c = OC at *
  generalize d.c = DC at *
  refine calls_tri Try.func17 rfl Try.ntmps17 rfl ?_
  repeat (first | (show Walk1 _ _ _ (_ :: _) _ _; first | (show Walk1 _ _ _ (⟨_, _, _, _, _, some _⟩ :: _) _ _; refine zn1 ?_) | (show HW1 (.move _); refine wz1 ?_) | (show HW1 (.assign _); refine wz2 ?_) | (show HW1 (.pick _ _ _); refine wz8 ?_) | (show HW1 (.box _ _); refine wz11 ?_) | (show HW1 (.call ⟨.value (.func 36), _, _⟩); ((first | refine cwalk11 36 ?_ | refine cwalk10 36 ?_); refine ⟨_, fun e w => cn w, ?_⟩))) | refine go1 ?_ | refine end_block_other rfl ?_ | refine end_scope (fun _ h => by cases h) ?_ | (refine walk_endD ?_ ?_; (· kernel_rfl)) | refine tri_yesA rfl ?_ | refine tri_noA rfl ?_ | refine tri_trueA rfl ?_ | refine tri_falseA rfl ?_)
  refine end_ret (.c (.bool false)) (res_tmp rfl rfl) ?_
  exact fin_below fun _ => rfl
theorem nullSteps22w_any (w : World) : Calls Try.prog 20 #[.pointer none] w fun e w' => e = .returned (.int .i64 0) ∧ Below w.heap.size w w' := by
  have cn := fun w => nullNone22w_any w
  refine calls_tri Try.func20 rfl Try.ntmps20 rfl ?_
  repeat (first | (show Walk1 _ _ _ (_ :: _) _ _; first | (show HW1 (.move _); refine wz1 ?_) | (show HW1 (.assign _); refine wz13 ?_) | (show HW1 (.call ⟨.value (.func 36), _, _⟩); ((first | refine cwalk11 36 ?_ | refine cwalk10 36 ?_); refine ⟨_, fun e w => cn w, ?_⟩))) | refine go1 ?_ | refine end_block_other rfl ?_ | refine end_scope (fun _ h => by cases h) ?_ | (refine walk_endD ?_ ?_; (· kernel_rfl)) | refine tri_yesA rfl ?_ | refine tri_noA rfl ?_ | refine tri_trueA rfl ?_ | refine tri_falseA rfl ?_)
  refine end_ret (.c (.int .i64 0)) (res_tmp rfl rfl) ?_
  exact fin_below fun _ => rfl
end Go.Proofs.Ytcookaiakfbdiaa
namespace Go.Proofs.Ytcookaiakfbdiaa
open Go.RowKit
set_option maxRecDepth 100000
set_option maxHeartbeats 1000000
section
variable {C : Ctx} {ops : Array Oper} {t : List (Nat × SV)} {h : List (Nat × Option Res)} {l : List Oper} {o : Oper} {d : Nat}
theorem walk1_callNOT {σ : Type} {f : FuncId} {xs : Array Operand} {ats : Array TypeId} {vs : List SV} {rb : List Nat} {j : Nat} {O : Obj σ} {s : σ} {u : Value} {K : St → Prop} (k : Nat) (ho : o.op = .call { callee := .value (.func f), args := xs, argTypes := ats }) (hdn : o.dst = some d) (hg : o.guard = none) (hd : dstB o.dst C.nt = true) (hf : freshB ⟨t, h⟩ d = true) (hxs : EvS ⟨t, h⟩ xs.toList vs) (hc' : tabLook calT f = some j)
    (hcon : ∀ (S' : St) e a w, Holds C S' e a w → (∀ q ∈ rb, S'.res q = (St.mk t h).res q) → Calls Try.prog j (vs.map (·.den e)).toArray w (RetNOT O w s u))
    (hK : Walk1 C Try.prog ops l ⟨(d, .tup [.p d 0, .c u]) :: t, (d, none) :: (k, some (.obj d O s)) :: h⟩ K) : Walk1 C Try.prog ops (o :: l) ⟨t, h⟩ K :=
  ⟨_, op_callNOT (C := C) (ops := ops) ho hdn hg hd hxs hc' k hcon, by simp [hf], hK⟩
end
def exA : TriS := ⟨⟨0, 0, 9⟩, ⟨5, 0, 9⟩, ⟨0, 5, 9⟩, List.replicate 9 (Value.int .i64 0), 1⟩
def exB : TriS := ⟨⟨0, 0, 4⟩, ⟨5, 0, 4⟩, ⟨0, 5, 4⟩, List.replicate 9 (Value.int .i64 0), 1⟩
theorem ex_ok : ∀ t ∈ [exA, exB], t.ok := fun t ht => by
  simp only [List.mem_cons, List.not_mem_nil, or_false] at ht
  rcases ht with rfl | rfl <;> exact ⟨rfl, fun u hu => by obtain ⟨_, rfl⟩ := List.mem_replicate.1 hu; rfl⟩
def exN : List NodeS := [⟨⟨0, 0, 4⟩, ⟨5, 5, 9⟩, -1, -1, 0, 2⟩]
theorem ex_tree : treeL [exA, exB] = (exN, [0, 1]) := by kernel_rfl
def exT : Tr := .leaf 0 0 2 ⟨0, 0, 4⟩ ⟨5, 5, 9⟩
theorem ex_treeS : TreeS [exA, exB] exN [0, 1] (some exT) where
  ok := ex_ok
  tr t h := by
    obtain rfl := Option.some.inj h
    exact ⟨⟨rfl, by decide⟩, rfl⟩
  no h := by cases h
  box x hx := by
    rw [exN, List.mem_singleton] at hx
    subst hx
    constructor <;> intro z hz <;> simp [P3.l] at hz <;> omega
  nl := by decide
  kl := by decide
  dom k hk := by simp at hk; rcases hk with rfl | rfl <;> decide
theorem ex_near1 : nearW (some exT) [exA, exB] [0, 1] ⟨1, 1, 0⟩ ⟨0, 0, 1⟩ 1 (-1) 0 = ⟨3, 1, ⟨100, 25, 5, 5⟩⟩ := by kernel_rfl
theorem ex_near2 : nearW (some exT) [exA, exB] [0, 1] ⟨1, 1, 0⟩ ⟨0, 0, 1⟩ 1 1 3 = ⟨6, 0, ⟨225, 25, 5, 5⟩⟩ := by kernel_rfl
attribute [local irreducible] Calls Walk1 WalkTo Tri EndA
theorem works22_any (w : World) : Calls Try.prog 10 #[] w fun e w' => e = .returned (.bool true) ∧ Below w.heap.size w w' := by
  have cN : ∀ w v, RdV w 19 v 2 (trisC [exA, exB]) → Calls Try.prog 14 #[v] w (RetNOT wkO w ⟨exN, [0, 1], [exA, exB], 0⟩ (.int .i64 0)) := fun w v h => walkNew_any [exA, exB] ex_ok (by decide) exN [0, 1] v w h fun w h => by
    have := build_any [exA, exB] ex_ok (by decide) (by decide) (by intro t ht; simp only [List.mem_cons, List.not_mem_nil, or_false] at ht; rcases ht with rfl | rfl <;> decide) v w h
    rw [ex_tree] at this
    exact this
  have m1 := wkNear_obj exN [0, 1] [exA, exB] 0 (some exT) ex_treeS (by decide) ⟨1, 1, 0⟩ ⟨0, 0, 1⟩ 1 (-1)
  have m2 := wkNear_obj exN [0, 1] [exA, exB] 3 (some exT) ex_treeS (by decide) ⟨1, 1, 0⟩ ⟨0, 0, 1⟩ 1 1
  rw [ex_near1] at m1
  rw [ex_near2] at m2
  simp only [P3.c, M4.c] at m1 m2
  refine calls_tri Try.func10 rfl Try.ntmps10 rfl ?_
  repeat (first | (show Walk1 _ _ _ (_ :: _) _ _; (show HW1 (.assign _); refine wz2 ?_)) | refine go1 ?_ | refine end_block_other rfl ?_ | refine end_scope (fun _ h => by cases h) ?_ | (refine walk_endD ?_ ?_; (· kernel_rfl)) | refine tri_yesA rfl ?_ | refine tri_noA rfl ?_ | refine tri_trueA rfl ?_ | refine tri_falseA rfl ?_)
  refine walk1_t (op_buildC (parts := [(2, .const (.int .i64 9))]) (vs := [.int .i64 9]) #[.int .i64 0, .int .i64 0, .int .i64 9] rfl rfl rfl rfl rfl rfl (by kernel_rfl) (by kernel_rfl)) ?_
  refine walk1_t (op_buildC (parts := [(0, .const (.int .i64 5)), (2, .const (.int .i64 9))]) (vs := [.int .i64 5, .int .i64 9]) #[.int .i64 5, .int .i64 0, .int .i64 9] rfl rfl rfl rfl rfl rfl (by kernel_rfl) (by kernel_rfl)) ?_
  refine walk1_t (op_buildC (parts := [(1, .const (.int .i64 5)), (2, .const (.int .i64 9))]) (vs := [.int .i64 5, .int .i64 9]) #[.int .i64 0, .int .i64 5, .int .i64 9] rfl rfl rfl rfl rfl rfl (by kernel_rfl) (by kernel_rfl)) ?_
  refine walk1_t (op_buildA (parts := [(0, .tmp 8), (1, .tmp 9), (2, .tmp 10)]) (vs := [.agg #[.int .i64 0, .int .i64 0, .int .i64 9], .agg #[.int .i64 5, .int .i64 0, .int .i64 9], .agg #[.int .i64 0, .int .i64 5, .int .i64 9]]) #[.int .i64 0, .int .i64 0, .int .i64 9, .int .i64 5, .int .i64 0, .int .i64 9, .int .i64 0, .int .i64 5, .int .i64 9] rfl rfl rfl rfl rfl rfl rfl (by kernel_rfl)) ?_
  refine walk1_t (op_buildC (parts := [(0, .tmp 11), (5, .const (.int .u8 1))]) (vs := [.agg #[.int .i64 0, .int .i64 0, .int .i64 9, .int .i64 5, .int .i64 0, .int .i64 9, .int .i64 0, .int .i64 5, .int .i64 9], .int .u8 1]) #[.int .i64 0, .int .i64 0, .int .i64 9, .int .i64 5, .int .i64 0, .int .i64 9, .int .i64 0, .int .i64 5, .int .i64 9, .int .i64 0, .int .i64 0, .int .i64 0, .int .i64 0, .int .i64 0, .int .i64 0, .int .i64 0, .int .i64 0, .int .i64 0, .int .u8 1] rfl rfl rfl rfl rfl rfl (by kernel_rfl) (by kernel_rfl)) ?_
  refine walk1_t (op_buildC (parts := [(2, .const (.int .i64 4))]) (vs := [.int .i64 4]) #[.int .i64 0, .int .i64 0, .int .i64 4] rfl rfl rfl rfl rfl rfl (by kernel_rfl) (by kernel_rfl)) ?_
  refine walk1_t (op_buildC (parts := [(0, .const (.int .i64 5)), (2, .const (.int .i64 4))]) (vs := [.int .i64 5, .int .i64 4]) #[.int .i64 5, .int .i64 0, .int .i64 4] rfl rfl rfl rfl rfl rfl (by kernel_rfl) (by kernel_rfl)) ?_
  refine walk1_t (op_buildC (parts := [(1, .const (.int .i64 5)), (2, .const (.int .i64 4))]) (vs := [.int .i64 5, .int .i64 4]) #[.int .i64 0, .int .i64 5, .int .i64 4] rfl rfl rfl rfl rfl rfl (by kernel_rfl) (by kernel_rfl)) ?_
  refine walk1_t (op_buildA (parts := [(0, .tmp 13), (1, .tmp 14), (2, .tmp 15)]) (vs := [.agg #[.int .i64 0, .int .i64 0, .int .i64 4], .agg #[.int .i64 5, .int .i64 0, .int .i64 4], .agg #[.int .i64 0, .int .i64 5, .int .i64 4]]) #[.int .i64 0, .int .i64 0, .int .i64 4, .int .i64 5, .int .i64 0, .int .i64 4, .int .i64 0, .int .i64 5, .int .i64 4] rfl rfl rfl rfl rfl rfl rfl (by kernel_rfl)) ?_
  refine walk1_t (op_buildC (parts := [(0, .tmp 16), (5, .const (.int .u8 1))]) (vs := [.agg #[.int .i64 0, .int .i64 0, .int .i64 4, .int .i64 5, .int .i64 0, .int .i64 4, .int .i64 0, .int .i64 5, .int .i64 4], .int .u8 1]) #[.int .i64 0, .int .i64 0, .int .i64 4, .int .i64 5, .int .i64 0, .int .i64 4, .int .i64 0, .int .i64 5, .int .i64 4, .int .i64 0, .int .i64 0, .int .i64 0, .int .i64 0, .int .i64 0, .int .i64 0, .int .i64 0, .int .i64 0, .int .i64 0, .int .u8 1] rfl rfl rfl rfl rfl rfl (by kernel_rfl) (by kernel_rfl)) ?_
  refine walk1_n (op_bsliceQ rfl rfl rfl rfl rfl rfl rfl rfl rfl rfl (by decide) (by kernel_rfl)) (by kernel_rfl) ?_
  repeat (first | (show Walk1 _ _ _ (_ :: _) _ _; first | (show HW1 (.move _); refine wz1 ?_) | (show HW1 (.assign _); refine wz2 ?_)) | refine go1 ?_ | refine end_block_other rfl ?_ | refine end_scope (fun _ h => by cases h) ?_ | (refine walk_endD ?_ ?_; (· kernel_rfl)) | refine tri_yesA rfl ?_ | refine tri_noA rfl ?_ | refine tri_trueA rfl ?_ | refine tri_falseA rfl ?_)
  refine walk1_callNOT (rb := [18]) (vs := [.s 18 0 2 2]) 900 rfl rfl rfl rfl (by kernel_rfl) evq rfl (fun S' e a w' hS hq => cN w' _ ((rdn_cells (n := 18) (us := trisC [exA, exB]) rfl (by kernel_rfl) (by kernel_rfl)) S' e a w' hq hS)) ?_
  repeat (first | (show Walk1 _ _ _ (_ :: _) _ _; first | (show Walk1 _ _ _ (⟨_, _, _, _, _, some _⟩ :: _) _ _; refine zy1 ?_) | (show HW1 (.move _); refine wz1 ?_) | (show HW1 (.assign _); refine wz2 ?_) | (show HW1 (.binOp .mul _ _ _ _); refine wz125 ?_) | (show HW1 (.binOp .eql _ _ _ _); first | refine wz30 ?_ | refine wz76 ?_) | (show HW1 (.binOp .neq _ _ _ _); refine wz61 ?_) | (show HW1 (.pick _ _ _); first | refine wz8 ?_ | refine wz7 ?_) | (show HW1 (.load _ _); refine wz3 ?_) | (show HW1 (.store _ _ _); refine wz14 ?_) | (show HW1 (.alloc _); refine wz6 ?_) | (show HW1 (.fieldAddr _ _ _); refine wz4 ?_) | (show HW1 (.extract _ _); first | refine wz16 ?_ | refine wz15 ?_ | refine wz84 ?_) | (show HW1 (.build _ _); refine wz25 ?_) | (show HW1 (.call ⟨.value (.func 15), _, _⟩); (first | refine walk1_callObj 900 (m1) rfl rfl rfl rfl evq rfl rfl (fun _ => rfl) ?_ | refine walk1_callObj0 900 (m1) rfl rfl rfl evq rfl rfl (fun _ => rfl) ?_)) | (show HW1 (.call ⟨.value (.func 15), _, _⟩); (first | refine walk1_callObj 900 (m2) rfl rfl rfl rfl evq rfl rfl (fun _ => rfl) ?_ | refine walk1_callObj0 900 (m2) rfl rfl rfl evq rfl rfl (fun _ => rfl) ?_))) | refine go1 ?_ | refine end_block_other rfl ?_ | refine end_scope (fun _ h => by cases h) ?_ | (refine walk_endD ?_ ?_; (· kernel_rfl)) | refine tri_yesA rfl ?_ | refine tri_noA rfl ?_ | refine tri_trueA rfl ?_ | refine tri_falseA rfl ?_)

  refine end_ret (.c (.bool true)) (res_tmp rfl rfl) ?_
  exact fin_below fun _ => rfl
end Go.Proofs.Ytcookaiakfbdiaa
namespace Go.Proofs.Ytcookaiakfbdiaa
open Go.RowKit
set_option maxRecDepth 100000
set_option maxHeartbeats 1000000
def HitR : Prop := ∀ (o d p0 p1 p2 : P3) (w : World), Calls Try.prog 41 #[.agg o.c, .agg d.c, .agg (P9 p0 p1 p2)] w fun e w' => e = .returned (.tuple #[.agg (hitM o d p0 p1 p2).1.c, .bool (hitM o d p0 p1 p2).2]) ∧ Below w.heap.size w w'
theorem any_stay (l : List TriS) (o d : P3) (mask : BitVec 8) (skip : Int) (near : Bool) (j : Nat) (h : anyS l o d mask skip near j = true) : ∀ k, j ≤ k → k ≤ l.length → anyS l o d mask skip near k = true
  | 0, h1, _ => by rw [show j = 0 by omega] at h; exact h
  | k + 1, h1, h2 => by
    by_cases he : j = k + 1
    · rw [← he]; exact h
    · have ih := any_stay l o d mask skip near j h k (by omega) (by omega)
      have hk : l[k]? = some (l[k]'(by omega)) := List.getElem?_eq_getElem (by omega)
      rw [anyS, hk]
      simp only [ih]
      split <;> rfl
attribute [local irreducible] Calls Walk1 WalkTo Tri EndA
theorem refAny_any (cH : HitR) (l : List TriS) (hl60 : l.length ≤ 4096) (hok : ∀ t ∈ l, t.ok) (o d : P3) (mask : BitVec 8) (skip : Int) (near : Bool) (v : Value) (w : World) (hv : FS w 19 v l.length (trisC l)) :
    Calls Try.prog 19 #[v, .agg o.c, .agg d.c, .int .u8 (bvi mask), .int .i64 skip, .bool near] w fun e w' => e = .returned (.bool (anyS l o d mask skip near l.length)) ∧ Below w.heap.size w w' := by
  have hdr := hv.rd
  have hos : o.c.size = 3 := rfl
  have hds : d.c.size = 3 := rfl
  have hM := tris_mask l hok
  have hP := tris_P l hok
  have cH1 := fun p0 p1 p2 w => cH o d p0 p1 p2 w
  have hN0 : anyS l o d mask skip near 0 = false := rfl
  have hNn : anyS l o d mask skip near l.length = anyS l o d mask skip near l.length := rfl
  generalize o.c = OC at *
  generalize d.c = DC at *
  generalize hXS : trisC l = XS at *
  refine calls_tri Try.func19 rfl Try.ntmps19 rfl ?_
  repeat (first | (show Walk1 _ _ _ (_ :: _) _ _; first | (show HW1 (.assign _); first | refine wz13 ?_ | refine wz2 ?_) | (show HW1 (.box _ _); refine wz11 ?_)) | refine go1 ?_ | refine end_block_other rfl ?_ | refine end_scope (fun _ h => by cases h) ?_ | (refine walk_endD ?_ ?_; (· kernel_rfl)) | refine tri_yesA rfl ?_ | refine tri_noA rfl ?_ | refine tri_trueA rfl ?_ | refine tri_falseA rfl ?_)
  refine tri_loop (X := Nat) (fun j => ⟨[(13, SV.c (.int .i64 ((j : Nat) : Int))), (0, .c v), (7, .p 7 0), (8, .p 8 0), (3, .c (.int .u8 (bvi mask))), (4, .c (.int .i64 skip)), (5, .c (.bool near)), (12, .c (.bool false))], [(7, some (.blk 7 24 (.c OC))), (8, some (.blk 8 24 (.c DC)))]⟩)
    (fun j => j ≤ l.length ∧ anyS l o d mask skip near j = false) (fun j => l.length - j) 0 ⟨by omega, hN0⟩ (by exact ent_kp) ?_
  intro j hj K next
  obtain ⟨hj, hjf⟩ := hj
  by_cases h : j < l.length
  · obtain ⟨t, ht⟩ : ∃ t, l[j]? = some t := ⟨_, List.getElem?_eq_getElem h⟩
    have hM1 := hM j t ht
    have hP1 := hP j t ht
    have hlt : j * 19 + 19 ≤ XS.length := by rw [hdr.1]; omega
    rw [← Nat.zero_add (j * 19)] at hM1 hP1
    have hA1 : anyS l o d mask skip near (j + 1) = if ((meetM o d mask skip j t).2 && (!near || decide ((meetM o d mask skip j t).1.num < (meetM o d mask skip j t).1.det))) = true then true else anyS l o d mask skip near j := by rw [anyS, ht]
    have hst := any_stay l o d mask skip near (j + 1)
    have cH2 := fun w => cH1 t.p0 t.p1 t.p2 w
    unfold meetM at hA1
    cases hq : (t.mask &&& mask == BitVec.ofInt 8 0)
    · by_cases hs : (j : Int) = skip
      · have hs1 : decide ((j : Int) = skip) = true := by simpa using hs
        have hf2 : anyS l o d mask skip near (j + 1) = false := by rw [hA1, hs]; simp [hjf]
        have nx := fun S' h1 h2 h3 => next S' (j + 1) h1 h2 h3
        repeat (first | (show Walk1 _ _ _ (_ :: _) _ _; first | (show Walk1 _ _ _ (⟨_, _, _, _, _, some _⟩ :: _) _ _; refine zy1 ?_) | (show HW1 (.move _); refine wz1 ?_) | (show HW1 (.assign _); refine wz2 ?_) | (show HW1 (.binOp .add _ _ _ _); refine wz10 ?_) | (show HW1 (.binOp .lss _ _ _ _); refine wz5 ?_) | (show HW1 (.binOp .eql _ _ _ _); first | refine wz34 ?_ | refine wz18 ?_) | (show HW1 (.binOp .and _ _ _ _); refine wz41 ?_) | (show HW1 (.pick _ _ _); refine wz7 ?_) | (show HW1 (.indexAddr _ _ _); refine wz26 ?_) | (show HW1 (.load _ _); refine wz44 ?_) | (show HW1 (.fieldAddr _ _ _); refine wz38 ?_) | (show HW1 (.call ⟨.builtin .len, _, _⟩); refine wz27 ?_)) | refine go1 ?_ | refine end_block_other rfl ?_ | refine end_scope (fun _ h => by cases h) ?_ | (refine walk_endD ?_ ?_; (· kernel_rfl)) | refine tri_yesA rfl ?_ | refine tri_noA rfl ?_ | refine tri_trueA rfl ?_ | refine tri_falseA rfl ?_)
        repeat (first | refine go1 ?_ | refine end_block_other rfl ?_ | refine end_scope (fun _ h => by cases h) ?_ | (refine walk_endD ?_ ?_; (· kernel_rfl)) | refine tri_yesA rfl ?_ | refine tri_noA rfl ?_ | refine tri_trueA rfl ?_ | refine tri_falseA rfl ?_)
        refine next _ (j + 1) ⟨by omega, hf2⟩ (by omega) ?_
        exact ent_keep (by repeat (first | exact hasT_nil | refine hasT_cons rfl ?_ | refine hasT_eq rfl (svi (by omega)) ?_)) (by repeat (first | exact hasR_nil | refine hasR_cons rfl ?_))
      · have hs1 : decide ((j : Int) = skip) = false := by simpa using hs
        have hP2 : List.take 9 (List.drop (0 + j * 19 + 0) XS) = (P9 t.p0 t.p1 t.p2).toList := hP1
        clear hP1 hP
        generalize hitM o d t.p0 t.p1 t.p2 = HM at *
        obtain ⟨m, is⟩ := HM
        simp only at cH2 hA1
        generalize (P9 t.p0 t.p1 t.p2) = PP at *
        have cH3 : ∀ w, Calls Try.prog 41 #[.agg OC, .agg DC, .agg PP.toList.toArray] w fun e w' => e = .returned (.tuple #[.agg m.c, .bool is]) ∧ Below w.heap.size w w' := cH2
        have hmo : m.c.all (·.oneCell') = true := by simp [M4.c]; exact ⟨rfl, rfl, rfl, rfl⟩
        have hms : m.c.size = 4 := rfl
        have hq2 : (t.mask &&& mask != BitVec.ofInt 8 0) = true := by rw [bne, hq]; rfl
        rw [hq2] at hA1
        simp only [decide_not, hs1, Bool.not_false, Bool.and_true] at hA1
        cases is
        · have hf2 : anyS l o d mask skip near (j + 1) = false := by rw [hA1]; simp [hjf]
          repeat (first | (show Walk1 _ _ _ (_ :: _) _ _; first | (show Walk1 _ _ _ (⟨_, _, _, _, _, some _⟩ :: _) _ _; first | refine zy1 ?_ | refine zn1 ?_ | refine zu1 ?_) | (show HW1 (.move _); refine wz1 ?_) | (show HW1 (.assign _); refine wz2 ?_) | (show HW1 (.binOp .add _ _ _ _); refine wz10 ?_) | (show HW1 (.binOp .lss _ _ _ _); refine wz5 ?_) | (show HW1 (.binOp .eql _ _ _ _); first | refine wz34 ?_ | refine wz18 ?_) | (show HW1 (.binOp .and _ _ _ _); refine wz41 ?_) | (show HW1 (.pick _ _ _); refine wz7 ?_) | (show HW1 (.indexAddr _ _ _); refine wz26 ?_) | (show HW1 (.load _ _); refine wz44 ?_) | (show HW1 (.fieldAddr _ _ _); refine wz38 ?_) | (show HW1 (.call ⟨.builtin .len, _, _⟩); refine wz27 ?_)) | (show WalkTo _ _ _ _ (_ :: _) _ _ _; first | (show HW2 (.move _); refine wz20 ?_) | (show HW2 (.assign _); refine wz17 ?_) | (show HW2 (.indexAddr _ _ _); refine wz45 ?_) | (show HW2 (.load _ _); first | refine wz22 ?_ | refine wz58 ?_) | (show HW2 (.store _ _ _); refine wz36 ?_) | (show HW2 (.alloc _); refine wz43 ?_) | (show HW2 (.fieldAddr _ _ _); refine wz62 ?_) | (show HW2 (.extract _ _); first | refine wz60 ?_ | refine wz59 ?_) | (show HW2 (.call ⟨.value (.func 41), _, _⟩); ((first | refine cwalk1 41 ?_ | refine cwalk0 41 ?_); refine ⟨_, fun e w => cH3 w, ?_⟩))) | refine go1 ?_ | refine end_block_other rfl ?_ | refine end_scope (fun _ h => by cases h) ?_ | (refine walk_endD ?_ ?_; (· kernel_rfl)) | refine tri_yesA rfl ?_ | refine tri_noA rfl ?_ | refine tri_trueA rfl ?_ | refine tri_falseA rfl ?_)
          repeat (first | refine go1 ?_ | refine end_block_other rfl ?_ | refine end_scope (fun _ h => by cases h) ?_ | (refine walk_endD ?_ ?_; (· kernel_rfl)) | refine tri_yesA rfl ?_ | refine tri_noA rfl ?_ | refine tri_trueA rfl ?_ | refine tri_falseA rfl ?_)
          refine next _ (j + 1) ⟨by omega, hf2⟩ (by omega) ?_
          exact ent_keep (by repeat (first | exact hasT_nil | refine hasT_cons rfl ?_ | refine hasT_eq rfl (svi (by omega)) ?_)) (by repeat (first | exact hasR_nil | refine hasR_cons rfl ?_))
        · cases near
          · have hE := hst (by rw [hA1]; simp) l.length (by omega) (Nat.le_refl _)
            rw [hE]
            repeat (first | (show Walk1 _ _ _ (_ :: _) _ _; first | (show Walk1 _ _ _ (⟨_, _, _, _, _, some _⟩ :: _) _ _; first | refine zy1 ?_ | refine zn1 ?_) | (show HW1 (.move _); refine wz1 ?_) | (show HW1 (.assign _); refine wz2 ?_) | (show HW1 (.binOp .lss _ _ _ _); refine wz5 ?_) | (show HW1 (.binOp .eql _ _ _ _); first | refine wz34 ?_ | refine wz18 ?_) | (show HW1 (.binOp .and _ _ _ _); refine wz41 ?_) | (show HW1 (.pick _ _ _); first | refine wz8 ?_ | refine wz7 ?_) | (show HW1 (.unOp _ _ _); refine wz19 ?_) | (show HW1 (.indexAddr _ _ _); refine wz26 ?_) | (show HW1 (.load _ _); refine wz44 ?_) | (show HW1 (.fieldAddr _ _ _); refine wz38 ?_) | (show HW1 (.call ⟨.builtin .len, _, _⟩); refine wz27 ?_)) | (show WalkTo _ _ _ _ (_ :: _) _ _ _; first | (show HW2 (.move _); refine wz20 ?_) | (show HW2 (.assign _); refine wz17 ?_) | (show HW2 (.indexAddr _ _ _); refine wz45 ?_) | (show HW2 (.load _ _); first | refine wz22 ?_ | refine wz58 ?_) | (show HW2 (.store _ _ _); refine wz36 ?_) | (show HW2 (.alloc _); refine wz43 ?_) | (show HW2 (.fieldAddr _ _ _); refine wz62 ?_) | (show HW2 (.extract _ _); first | refine wz60 ?_ | refine wz59 ?_) | (show HW2 (.call ⟨.value (.func 41), _, _⟩); ((first | refine cwalk1 41 ?_ | refine cwalk0 41 ?_); refine ⟨_, fun e w => cH3 w, ?_⟩))) | refine go1 ?_ | refine end_block_other rfl ?_ | refine end_scope (fun _ h => by cases h) ?_ | (refine walk_endD ?_ ?_; (· kernel_rfl)) | refine tri_yesA rfl ?_ | refine tri_noA rfl ?_ | refine tri_trueA rfl ?_ | refine tri_falseA rfl ?_)
            refine end_ret (.c (.bool true)) (res_tmp rfl rfl) ?_
            exact fin_below fun _ => rfl
          · by_cases hnd : m.num < m.det
            · have hE := hst (by rw [hA1]; simp [hnd]) l.length (by omega) (Nat.le_refl _)
              rw [hE]
              have hn1 : decide (m.num < m.det) = true := by simpa using hnd
              repeat (first | (show Walk1 _ _ _ (_ :: _) _ _; first | (show Walk1 _ _ _ (⟨_, _, _, _, _, some _⟩ :: _) _ _; refine zy1 ?_) | (show HW1 (.move _); refine wz1 ?_) | (show HW1 (.assign _); refine wz2 ?_) | (show HW1 (.binOp .lss _ _ _ _); first | refine wz5 ?_ | refine wz12 ?_) | (show HW1 (.binOp .eql _ _ _ _); first | refine wz34 ?_ | refine wz18 ?_) | (show HW1 (.binOp .and _ _ _ _); refine wz41 ?_) | (show HW1 (.pick _ _ _); first | refine wz8 ?_ | refine wz7 ?_) | (show HW1 (.unOp _ _ _); refine wz19 ?_) | (show HW1 (.indexAddr _ _ _); refine wz26 ?_) | (show HW1 (.load _ _); first | refine wz3 ?_ | refine wz44 ?_) | (show HW1 (.fieldAddr _ _ _); first | refine wz4 ?_ | refine wz38 ?_) | (show HW1 (.call ⟨.builtin .len, _, _⟩); refine wz27 ?_)) | (show WalkTo _ _ _ _ (_ :: _) _ _ _; first | (show HW2 (.move _); refine wz20 ?_) | (show HW2 (.assign _); refine wz17 ?_) | (show HW2 (.indexAddr _ _ _); refine wz45 ?_) | (show HW2 (.load _ _); first | refine wz22 ?_ | refine wz58 ?_) | (show HW2 (.store _ _ _); refine wz36 ?_) | (show HW2 (.alloc _); refine wz43 ?_) | (show HW2 (.fieldAddr _ _ _); refine wz62 ?_) | (show HW2 (.extract _ _); first | refine wz60 ?_ | refine wz59 ?_) | (show HW2 (.call ⟨.value (.func 41), _, _⟩); ((first | refine cwalk1 41 ?_ | refine cwalk0 41 ?_); refine ⟨_, fun e w => cH3 w, ?_⟩))) | refine go1 ?_ | refine end_block_other rfl ?_ | refine end_scope (fun _ h => by cases h) ?_ | (refine walk_endD ?_ ?_; (· kernel_rfl)) | refine tri_yesA rfl ?_ | refine tri_noA rfl ?_ | refine tri_trueA rfl ?_ | refine tri_falseA rfl ?_)
              refine end_ret (.c (.bool true)) (res_tmp rfl rfl) ?_
              exact fin_below fun _ => rfl
            · have hn1 : decide (m.num < m.det) = false := by simpa using hnd
              have hf2 : anyS l o d mask skip true (j + 1) = false := by rw [hA1]; simp [hjf, hnd]
              repeat (first | (show Walk1 _ _ _ (_ :: _) _ _; first | (show Walk1 _ _ _ (⟨_, _, _, _, _, some _⟩ :: _) _ _; refine zy1 ?_) | (show HW1 (.move _); refine wz1 ?_) | (show HW1 (.assign _); refine wz2 ?_) | (show HW1 (.binOp .add _ _ _ _); refine wz10 ?_) | (show HW1 (.binOp .lss _ _ _ _); first | refine wz5 ?_ | refine wz12 ?_) | (show HW1 (.binOp .eql _ _ _ _); first | refine wz34 ?_ | refine wz18 ?_) | (show HW1 (.binOp .and _ _ _ _); refine wz41 ?_) | (show HW1 (.pick _ _ _); first | refine wz8 ?_ | refine wz7 ?_) | (show HW1 (.unOp _ _ _); refine wz19 ?_) | (show HW1 (.indexAddr _ _ _); refine wz26 ?_) | (show HW1 (.load _ _); first | refine wz3 ?_ | refine wz44 ?_) | (show HW1 (.fieldAddr _ _ _); first | refine wz4 ?_ | refine wz38 ?_) | (show HW1 (.call ⟨.builtin .len, _, _⟩); refine wz27 ?_)) | (show WalkTo _ _ _ _ (_ :: _) _ _ _; first | (show HW2 (.move _); refine wz20 ?_) | (show HW2 (.assign _); refine wz17 ?_) | (show HW2 (.indexAddr _ _ _); refine wz45 ?_) | (show HW2 (.load _ _); first | refine wz22 ?_ | refine wz58 ?_) | (show HW2 (.store _ _ _); refine wz36 ?_) | (show HW2 (.alloc _); refine wz43 ?_) | (show HW2 (.fieldAddr _ _ _); refine wz62 ?_) | (show HW2 (.extract _ _); first | refine wz60 ?_ | refine wz59 ?_) | (show HW2 (.call ⟨.value (.func 41), _, _⟩); ((first | refine cwalk1 41 ?_ | refine cwalk0 41 ?_); refine ⟨_, fun e w => cH3 w, ?_⟩))) | refine go1 ?_ | refine end_block_other rfl ?_ | refine end_scope (fun _ h => by cases h) ?_ | (refine walk_endD ?_ ?_; (· kernel_rfl)) | refine tri_yesA rfl ?_ | refine tri_noA rfl ?_ | refine tri_trueA rfl ?_ | refine tri_falseA rfl ?_)
              repeat (first | refine go1 ?_ | refine end_block_other rfl ?_ | refine end_scope (fun _ h => by cases h) ?_ | (refine walk_endD ?_ ?_; (· kernel_rfl)) | refine tri_yesA rfl ?_ | refine tri_noA rfl ?_ | refine tri_trueA rfl ?_ | refine tri_falseA rfl ?_)
              refine next _ (j + 1) ⟨by omega, hf2⟩ (by omega) ?_
              exact ent_keep (by repeat (first | exact hasT_nil | refine hasT_cons rfl ?_ | refine hasT_eq rfl (svi (by omega)) ?_)) (by repeat (first | exact hasR_nil | refine hasR_cons rfl ?_))
    · have hf2 : anyS l o d mask skip near (j + 1) = false := by
        have hq2 : (t.mask &&& mask != BitVec.ofInt 8 0) = false := by rw [bne, hq]; rfl
        rw [hA1, hq2]; simp [hjf]
      have nx := fun S' h1 h2 h3 => next S' (j + 1) h1 h2 h3
      repeat (first | (show Walk1 _ _ _ (_ :: _) _ _; first | (show Walk1 _ _ _ (⟨_, _, _, _, _, some _⟩ :: _) _ _; refine zn1 ?_) | (show HW1 (.move _); refine wz1 ?_) | (show HW1 (.assign _); refine wz2 ?_) | (show HW1 (.binOp .add _ _ _ _); refine wz10 ?_) | (show HW1 (.binOp .lss _ _ _ _); refine wz5 ?_) | (show HW1 (.binOp .eql _ _ _ _); refine wz34 ?_) | (show HW1 (.binOp .and _ _ _ _); refine wz41 ?_) | (show HW1 (.pick _ _ _); refine wz8 ?_) | (show HW1 (.indexAddr _ _ _); refine wz26 ?_) | (show HW1 (.load _ _); refine wz44 ?_) | (show HW1 (.fieldAddr _ _ _); refine wz38 ?_) | (show HW1 (.call ⟨.builtin .len, _, _⟩); refine wz27 ?_)) | refine go1 ?_ | refine end_block_other rfl ?_ | refine end_scope (fun _ h => by cases h) ?_ | (refine walk_endD ?_ ?_; (· kernel_rfl)) | refine tri_yesA rfl ?_ | refine tri_noA rfl ?_ | refine tri_trueA rfl ?_ | refine tri_falseA rfl ?_)
      repeat (first | refine go1 ?_ | refine end_block_other rfl ?_ | refine end_scope (fun _ h => by cases h) ?_ | (refine walk_endD ?_ ?_; (· kernel_rfl)) | refine tri_yesA rfl ?_ | refine tri_noA rfl ?_ | refine tri_trueA rfl ?_ | refine tri_falseA rfl ?_)
      refine next _ (j + 1) ⟨by omega, hf2⟩ (by omega) ?_
      exact ent_keep (by repeat (first | exact hasT_nil | refine hasT_cons rfl ?_ | refine hasT_eq rfl (svi (by omega)) ?_)) (by repeat (first | exact hasR_nil | refine hasR_cons rfl ?_))
  · obtain rfl : j = l.length := by omega
    rw [hjf]
    repeat (first | (show Walk1 _ _ _ (_ :: _) _ _; first | (show HW1 (.move _); refine wz1 ?_) | (show HW1 (.assign _); refine wz2 ?_) | (show HW1 (.binOp .lss _ _ _ _); refine wz5 ?_) | (show HW1 (.call ⟨.builtin .len, _, _⟩); refine wz27 ?_)) | refine go1 ?_ | refine end_block_other rfl ?_ | refine end_scope (fun _ h => by cases h) ?_ | (refine walk_endD ?_ ?_; (· kernel_rfl)) | refine tri_yesA rfl ?_ | refine tri_noA rfl ?_ | refine tri_trueA rfl ?_ | refine tri_falseA rfl ?_)
    refine end_ret (.c (.bool false)) (res_tmp rfl rfl) ?_
    exact fin_below fun _ => rfl
end Go.Proofs.Ytcookaiakfbdiaa
namespace Go.Proofs.Ytcookaiakfbdiaa
open Go.RowKit
set_option maxRecDepth 100000
set_option maxHeartbeats 1000000
/-- Handed back: a value, and a row of cells; the row's block written. -/
theorem less2_any (a b : M4) (ha : okM a) (hb : okM b) (w : World) : Calls Try.prog 42 #[.agg a.c, .agg b.c] w fun e w' => e = .returned (.bool (lessM a b)) ∧ Below w.heap.size w w' :=
  lessR_any a b w (.inr (.inr ⟨ha.1, hb.1⟩)) ha.2.1 hb.2.1 ha.2.2 hb.2.2
attribute [local irreducible] Calls Walk1 WalkTo Tri EndA
theorem refNear_any (cH : HitR) (l : List TriS) (hl60 : l.length ≤ 4096) (hok : ∀ t ∈ l, t.ok) (o d : P3) (mask : BitVec 8) (skip : Int) (v : Value) (w : World) (hv : FS w 19 v l.length (trisC l)) :
    Calls Try.prog 18 #[v, .agg o.c, .agg d.c, .int .u8 (bvi mask), .int .i64 skip] w fun e w' => e = .returned (.tuple #[.int .i64 (nearS l o d mask skip l.length).1, .agg (nearS l o d mask skip l.length).2.c]) ∧ Below w.heap.size w w' := by
  have hdr := hv.rd
  have hos : o.c.size = 3 := rfl
  have hds : d.c.size = 3 := rfl
  have hM := tris_mask l hok
  have hP := tris_P l hok
  have cH1 := fun p0 p1 p2 w => cH o d p0 p1 p2 w
  have hN0 : nearS l o d mask skip 0 = (-1, zM) := rfl
  have hNo := near_ok l o d mask skip
  have hNS : ∀ j t, l[j]? = some t → nearS l o d mask skip (j + 1) = if ((meetM o d mask skip j t).2 && (decide ((nearS l o d mask skip j).1 < 0) || lessM (meetM o d mask skip j t).1 (nearS l o d mask skip j).2)) = true then ((j : Int), (meetM o d mask skip j t).1) else nearS l o d mask skip j := fun j t h => by rw [nearS, h]
  have hMo : ∀ p0 p1 p2, okM (hitM o d p0 p1 p2).1 := fun p0 p1 p2 => okM_hit ..
  have cl := less2_any
  have hzc : zM.c = #[.int .i64 0, .int .i64 0, .int .i64 0, .int .i64 0] := rfl
  have hms : ∀ m : M4, m.c.size = 4 := fun _ => rfl
  have hmo : ∀ m : M4, m.c.all (·.oneCell') = true := fun m => by simp [M4.c]; exact ⟨rfl, rfl, rfl, rfl⟩
  generalize hNSg : nearS l o d mask skip = NS at *
  generalize o.c = OC at *
  generalize d.c = DC at *
  generalize hXS : trisC l = XS at *
  refine calls_tri Try.func18 rfl Try.ntmps18 rfl ?_
  repeat (first | (show Walk1 _ _ _ (_ :: _) _ _; first | (show HW1 (.assign _); first | refine wz13 ?_ | refine wz2 ?_) | (show HW1 (.store _ _ _); refine wz14 ?_) | (show HW1 (.alloc _); refine wz6 ?_) | (show HW1 (.box _ _); refine wz11 ?_) | (show HW1 (.build _ _); refine wz32 ?_)) | refine go1 ?_ | refine end_block_other rfl ?_ | refine end_scope (fun _ h => by cases h) ?_ | (refine walk_endD ?_ ?_; (· kernel_rfl)) | refine tri_yesA rfl ?_ | refine tri_noA rfl ?_ | refine tri_trueA rfl ?_ | refine tri_falseA rfl ?_)
  refine tri_loop (X := Nat) (fun j => ⟨[(14, SV.c (.int .i64 ((j : Nat) : Int))), (0, .c v), (6, .p 6 0), (7, .p 7 0), (3, .c (.int .u8 (bvi mask))), (4, .c (.int .i64 skip)), (10, .c (.int .i64 0)), (11, .p 11 0), (12, .c (.int .i64 (NS j).1)), (13, .p 13 0)], [(6, some (.blk 6 24 (.c OC))), (7, some (.blk 7 24 (.c DC))), (11, some (.blk 11 41 (.c zM.c))), (13, some (.blk 13 41 (.c (NS j).2.c)))]⟩)
    (fun j => j ≤ l.length) (fun j => l.length - j) 0 (by omega) (by rw [hN0]; simp only [hzc]; exact ent_keep (by repeat (first | exact hasT_nil | refine hasT_cons rfl ?_ | refine hasT_eq rfl (svi (by omega)) ?_)) (by repeat (first | exact hasR_nil | refine hasR_cons rfl ?_))) ?_
  intro j hj K next
  by_cases h : j < l.length
  · obtain ⟨t, ht⟩ : ∃ t, l[j]? = some t := ⟨_, List.getElem?_eq_getElem h⟩
    have hM1 := hM j t ht
    have hP1 := hP j t ht
    have hlt : j * 19 + 19 ≤ XS.length := by rw [hdr.1]; omega
    rw [← Nat.zero_add (j * 19)] at hM1 hP1
    have hns := hNS j t ht
    have cH2 := fun w => cH1 t.p0 t.p1 t.p2 w
    have cl1 := fun w => cl (hitM o d t.p0 t.p1 t.p2).1 (NS j).2 (hMo t.p0 t.p1 t.p2) (hNo j) w
    unfold meetM at hns
    have z3 := hms (NS j).2
    have z4 := hmo (NS j).2
    have nx := fun S' => next S' (j + 1)
    clear next hNS hNo hMo cl hN0 ht hmo cH1 hM hNSg
    generalize hN1 : NS (j + 1) = N1 at *
    generalize NS j = N0 at *
    obtain ⟨i, bm⟩ := N0
    simp only at z3 z4 cl1
    have hzs := hms zM
    generalize zM.c = ZM at *
    cases hq : (t.mask &&& mask == BitVec.ofInt 8 0)
    · by_cases hs : (j : Int) = skip
      · have hs1 : decide ((j : Int) = skip) = true := by simpa using hs
        have hf2 : N1 = (i, bm) := by rw [hns, hs]; simp
        subst hf2
        repeat (first | (show Walk1 _ _ _ (_ :: _) _ _; first | (show Walk1 _ _ _ (⟨_, _, _, _, _, some _⟩ :: _) _ _; refine zy1 ?_) | (show HW1 (.move _); refine wz1 ?_) | (show HW1 (.assign _); refine wz2 ?_) | (show HW1 (.binOp .add _ _ _ _); refine wz10 ?_) | (show HW1 (.binOp .lss _ _ _ _); refine wz5 ?_) | (show HW1 (.binOp .eql _ _ _ _); first | refine wz34 ?_ | refine wz18 ?_) | (show HW1 (.binOp .and _ _ _ _); refine wz41 ?_) | (show HW1 (.pick _ _ _); refine wz7 ?_) | (show HW1 (.indexAddr _ _ _); refine wz26 ?_) | (show HW1 (.load _ _); refine wz44 ?_) | (show HW1 (.fieldAddr _ _ _); refine wz38 ?_) | (show HW1 (.call ⟨.builtin .len, _, _⟩); refine wz27 ?_)) | refine go1 ?_ | refine end_block_other rfl ?_ | refine end_scope (fun _ h => by cases h) ?_ | (refine walk_endD ?_ ?_; (· kernel_rfl)) | refine tri_yesA rfl ?_ | refine tri_noA rfl ?_ | refine tri_trueA rfl ?_ | refine tri_falseA rfl ?_)
        repeat (first | refine go1 ?_ | refine end_block_other rfl ?_ | refine end_scope (fun _ h => by cases h) ?_ | (refine walk_endD ?_ ?_; (· kernel_rfl)) | refine tri_yesA rfl ?_ | refine tri_noA rfl ?_ | refine tri_trueA rfl ?_ | refine tri_falseA rfl ?_)
        refine nx _ (by omega) (by omega) ?_
        exact ent_keep (by repeat (first | exact hasT_nil | refine hasT_cons rfl ?_ | refine hasT_eq rfl (svi (by omega)) ?_)) (by repeat (first | exact hasR_nil | refine hasR_cons rfl ?_))
      · have hs1 : decide ((j : Int) = skip) = false := by simpa using hs
        have hP2 : List.take 9 (List.drop (0 + j * 19 + 0) XS) = (P9 t.p0 t.p1 t.p2).toList := hP1
        clear hP1 hP
        generalize hitM o d t.p0 t.p1 t.p2 = HM at *
        obtain ⟨m, is⟩ := HM
        simp only at cH2 hns cl1
        generalize (P9 t.p0 t.p1 t.p2) = PP at *
        have cH3 : ∀ w, Calls Try.prog 41 #[.agg OC, .agg DC, .agg PP.toList.toArray] w fun e w' => e = .returned (.tuple #[.agg m.c, .bool is]) ∧ Below w.heap.size w w' := cH2
        clear cH2
        have hmo : m.c.all (·.oneCell') = true := by simp [M4.c]; exact ⟨rfl, rfl, rfl, rfl⟩
        have hms : m.c.size = 4 := rfl
        have hq2 : (t.mask &&& mask != BitVec.ofInt 8 0) = true := by rw [bne, hq]; rfl
        rw [hq2] at hns
        simp only [decide_not, hs1, Bool.not_false, Bool.and_true] at hns
        generalize hLS : lessM m bm = LS at *
        cases is
        · have hf2 : N1 = (i, bm) := by rw [hns]; simp
          subst hf2
          repeat (first | (show Walk1 _ _ _ (_ :: _) _ _; first | (show Walk1 _ _ _ (⟨_, _, _, _, _, some _⟩ :: _) _ _; first | refine zy1 ?_ | refine zn1 ?_ | refine zu1 ?_) | (show HW1 (.move _); refine wz1 ?_) | (show HW1 (.assign _); refine wz2 ?_) | (show HW1 (.binOp .add _ _ _ _); refine wz10 ?_) | (show HW1 (.binOp .lss _ _ _ _); refine wz5 ?_) | (show HW1 (.binOp .eql _ _ _ _); first | refine wz34 ?_ | refine wz18 ?_) | (show HW1 (.binOp .and _ _ _ _); refine wz41 ?_) | (show HW1 (.pick _ _ _); refine wz7 ?_) | (show HW1 (.indexAddr _ _ _); refine wz26 ?_) | (show HW1 (.load _ _); refine wz44 ?_) | (show HW1 (.fieldAddr _ _ _); refine wz38 ?_) | (show HW1 (.call ⟨.builtin .len, _, _⟩); refine wz27 ?_)) | (show WalkTo _ _ _ _ (_ :: _) _ _ _; first | (show HW2 (.move _); refine wz20 ?_) | (show HW2 (.assign _); refine wz17 ?_) | (show HW2 (.indexAddr _ _ _); refine wz45 ?_) | (show HW2 (.load _ _); first | refine wz22 ?_ | refine wz58 ?_) | (show HW2 (.store _ _ _); refine wz36 ?_) | (show HW2 (.alloc _); refine wz43 ?_) | (show HW2 (.fieldAddr _ _ _); refine wz62 ?_) | (show HW2 (.extract _ _); first | refine wz60 ?_ | refine wz59 ?_) | (show HW2 (.call ⟨.value (.func 41), _, _⟩); ((first | refine cwalk1 41 ?_ | refine cwalk0 41 ?_); refine ⟨_, fun e w => cH3 w, ?_⟩))) | refine go1 ?_ | refine end_block_other rfl ?_ | refine end_scope (fun _ h => by cases h) ?_ | (refine walk_endD ?_ ?_; (· kernel_rfl)) | refine tri_yesA rfl ?_ | refine tri_noA rfl ?_ | refine tri_trueA rfl ?_ | refine tri_falseA rfl ?_)
          repeat (first | refine go1 ?_ | refine end_block_other rfl ?_ | refine end_scope (fun _ h => by cases h) ?_ | (refine walk_endD ?_ ?_; (· kernel_rfl)) | refine tri_yesA rfl ?_ | refine tri_noA rfl ?_ | refine tri_trueA rfl ?_ | refine tri_falseA rfl ?_)
          refine nx _ (by omega) (by omega) ?_
          exact ent_keep (by repeat (first | exact hasT_nil | refine hasT_cons rfl ?_ | refine hasT_eq rfl (svi (by omega)) ?_)) (by repeat (first | exact hasR_nil | refine hasR_cons rfl ?_))
        · by_cases hi : i < 0
          · have hi1 : decide (i < 0) = true := by simpa using hi
            have hf2 : N1 = ((j : Int), m) := by rw [hns]; simp [hi]
            subst hf2
            repeat (first | (show Walk1 _ _ _ (_ :: _) _ _; first | (show Walk1 _ _ _ (⟨_, _, _, _, _, some _⟩ :: _) _ _; first | refine zy1 ?_ | refine zn1 ?_) | (show HW1 (.move _); refine wz1 ?_) | (show HW1 (.assign _); refine wz2 ?_) | (show HW1 (.binOp .add _ _ _ _); refine wz10 ?_) | (show HW1 (.binOp .lss _ _ _ _); first | refine wz5 ?_ | refine wz12 ?_) | (show HW1 (.binOp .eql _ _ _ _); first | refine wz34 ?_ | refine wz18 ?_) | (show HW1 (.binOp .and _ _ _ _); refine wz41 ?_) | (show HW1 (.pick _ _ _); first | refine wz8 ?_ | refine wz7 ?_) | (show HW1 (.indexAddr _ _ _); refine wz26 ?_) | (show HW1 (.load _ _); refine wz44 ?_) | (show HW1 (.fieldAddr _ _ _); refine wz38 ?_) | (show HW1 (.call ⟨.builtin .len, _, _⟩); refine wz27 ?_)) | (show WalkTo _ _ _ _ (_ :: _) _ _ _; first | (show HW2 (.move _); refine wz20 ?_) | (show HW2 (.assign _); refine wz17 ?_) | (show HW2 (.indexAddr _ _ _); refine wz45 ?_) | (show HW2 (.load _ _); first | refine wz22 ?_ | refine wz58 ?_) | (show HW2 (.store _ _ _); refine wz36 ?_) | (show HW2 (.alloc _); refine wz43 ?_) | (show HW2 (.fieldAddr _ _ _); refine wz62 ?_) | (show HW2 (.extract _ _); first | refine wz60 ?_ | refine wz59 ?_) | (show HW2 (.call ⟨.value (.func 41), _, _⟩); ((first | refine cwalk1 41 ?_ | refine cwalk0 41 ?_); refine ⟨_, fun e w => cH3 w, ?_⟩))) | refine go1 ?_ | refine end_block_other rfl ?_ | refine end_scope (fun _ h => by cases h) ?_ | (refine walk_endD ?_ ?_; (· kernel_rfl)) | refine tri_yesA rfl ?_ | refine tri_noA rfl ?_ | refine tri_trueA rfl ?_ | refine tri_falseA rfl ?_)
            repeat (first | refine go1 ?_ | refine end_block_other rfl ?_ | refine end_scope (fun _ h => by cases h) ?_ | (refine walk_endD ?_ ?_; (· kernel_rfl)) | refine tri_yesA rfl ?_ | refine tri_noA rfl ?_ | refine tri_trueA rfl ?_ | refine tri_falseA rfl ?_)
            refine nx _ (by omega) (by omega) ?_
            exact ent_keep (by repeat (first | exact hasT_nil | refine hasT_cons rfl ?_ | refine hasT_eq rfl (svi (by omega)) ?_)) (by repeat (first | exact hasR_nil | refine hasR_cons rfl ?_))
          · have hi1 : decide (i < 0) = false := by simpa using hi
            cases LS
            · have hf2 : N1 = (i, bm) := by rw [hns]; simp [hi]
              subst hf2
              repeat (first | (show Walk1 _ _ _ (_ :: _) _ _; first | (show Walk1 _ _ _ (⟨_, _, _, _, _, some _⟩ :: _) _ _; refine zy1 ?_) | (show HW1 (.move _); refine wz1 ?_) | (show HW1 (.assign _); refine wz2 ?_) | (show HW1 (.binOp .add _ _ _ _); refine wz10 ?_) | (show HW1 (.binOp .lss _ _ _ _); first | refine wz5 ?_ | refine wz12 ?_) | (show HW1 (.binOp .eql _ _ _ _); first | refine wz34 ?_ | refine wz18 ?_) | (show HW1 (.binOp .and _ _ _ _); refine wz41 ?_) | (show HW1 (.pick _ _ _); first | refine wz8 ?_ | refine wz7 ?_) | (show HW1 (.indexAddr _ _ _); refine wz26 ?_) | (show HW1 (.load _ _); first | refine wz44 ?_ | refine wz9 ?_) | (show HW1 (.fieldAddr _ _ _); refine wz38 ?_) | (show HW1 (.call ⟨.builtin .len, _, _⟩); refine wz27 ?_) | (show HW1 (.call ⟨.value (.func 42), _, _⟩); ((first | refine cwalk11 42 ?_ | refine cwalk10 42 ?_); refine ⟨_, fun e w => cl1 w, ?_⟩))) | (show WalkTo _ _ _ _ (_ :: _) _ _ _; first | (show HW2 (.move _); refine wz20 ?_) | (show HW2 (.assign _); refine wz17 ?_) | (show HW2 (.indexAddr _ _ _); refine wz45 ?_) | (show HW2 (.load _ _); first | refine wz22 ?_ | refine wz58 ?_) | (show HW2 (.store _ _ _); refine wz36 ?_) | (show HW2 (.alloc _); refine wz43 ?_) | (show HW2 (.fieldAddr _ _ _); refine wz62 ?_) | (show HW2 (.extract _ _); first | refine wz60 ?_ | refine wz59 ?_) | (show HW2 (.call ⟨.value (.func 41), _, _⟩); ((first | refine cwalk1 41 ?_ | refine cwalk0 41 ?_); refine ⟨_, fun e w => cH3 w, ?_⟩))) | refine go1 ?_ | refine end_block_other rfl ?_ | refine end_scope (fun _ h => by cases h) ?_ | (refine walk_endD ?_ ?_; (· kernel_rfl)) | refine tri_yesA rfl ?_ | refine tri_noA rfl ?_ | refine tri_trueA rfl ?_ | refine tri_falseA rfl ?_)
              repeat (first | refine go1 ?_ | refine end_block_other rfl ?_ | refine end_scope (fun _ h => by cases h) ?_ | (refine walk_endD ?_ ?_; (· kernel_rfl)) | refine tri_yesA rfl ?_ | refine tri_noA rfl ?_ | refine tri_trueA rfl ?_ | refine tri_falseA rfl ?_)
              refine nx _ (by omega) (by omega) ?_
              exact ent_keep (by repeat (first | exact hasT_nil | refine hasT_cons rfl ?_ | refine hasT_eq rfl (svi (by omega)) ?_)) (by repeat (first | exact hasR_nil | refine hasR_cons rfl ?_))
            · have hf2 : N1 = ((j : Int), m) := by rw [hns]; simp
              subst hf2
              repeat (first | (show Walk1 _ _ _ (_ :: _) _ _; first | (show Walk1 _ _ _ (⟨_, _, _, _, _, some _⟩ :: _) _ _; refine zy1 ?_) | (show HW1 (.move _); refine wz1 ?_) | (show HW1 (.assign _); refine wz2 ?_) | (show HW1 (.binOp .add _ _ _ _); refine wz10 ?_) | (show HW1 (.binOp .lss _ _ _ _); first | refine wz5 ?_ | refine wz12 ?_) | (show HW1 (.binOp .eql _ _ _ _); first | refine wz34 ?_ | refine wz18 ?_) | (show HW1 (.binOp .and _ _ _ _); refine wz41 ?_) | (show HW1 (.pick _ _ _); first | refine wz8 ?_ | refine wz7 ?_) | (show HW1 (.indexAddr _ _ _); refine wz26 ?_) | (show HW1 (.load _ _); first | refine wz44 ?_ | refine wz9 ?_) | (show HW1 (.fieldAddr _ _ _); refine wz38 ?_) | (show HW1 (.call ⟨.builtin .len, _, _⟩); refine wz27 ?_) | (show HW1 (.call ⟨.value (.func 42), _, _⟩); ((first | refine cwalk11 42 ?_ | refine cwalk10 42 ?_); refine ⟨_, fun e w => cl1 w, ?_⟩))) | (show WalkTo _ _ _ _ (_ :: _) _ _ _; first | (show HW2 (.move _); refine wz20 ?_) | (show HW2 (.assign _); refine wz17 ?_) | (show HW2 (.indexAddr _ _ _); refine wz45 ?_) | (show HW2 (.load _ _); first | refine wz22 ?_ | refine wz58 ?_) | (show HW2 (.store _ _ _); refine wz36 ?_) | (show HW2 (.alloc _); refine wz43 ?_) | (show HW2 (.fieldAddr _ _ _); refine wz62 ?_) | (show HW2 (.extract _ _); first | refine wz60 ?_ | refine wz59 ?_) | (show HW2 (.call ⟨.value (.func 41), _, _⟩); ((first | refine cwalk1 41 ?_ | refine cwalk0 41 ?_); refine ⟨_, fun e w => cH3 w, ?_⟩))) | refine go1 ?_ | refine end_block_other rfl ?_ | refine end_scope (fun _ h => by cases h) ?_ | (refine walk_endD ?_ ?_; (· kernel_rfl)) | refine tri_yesA rfl ?_ | refine tri_noA rfl ?_ | refine tri_trueA rfl ?_ | refine tri_falseA rfl ?_)
              repeat (first | refine go1 ?_ | refine end_block_other rfl ?_ | refine end_scope (fun _ h => by cases h) ?_ | (refine walk_endD ?_ ?_; (· kernel_rfl)) | refine tri_yesA rfl ?_ | refine tri_noA rfl ?_ | refine tri_trueA rfl ?_ | refine tri_falseA rfl ?_)
              refine nx _ (by omega) (by omega) ?_
              exact ent_keep (by repeat (first | exact hasT_nil | refine hasT_cons rfl ?_ | refine hasT_eq rfl (svi (by omega)) ?_)) (by repeat (first | exact hasR_nil | refine hasR_cons rfl ?_))
    · have hf2 : N1 = (i, bm) := by
        have hq2 : (t.mask &&& mask != BitVec.ofInt 8 0) = false := by rw [bne, hq]; rfl
        rw [hns, hq2]; simp
      subst hf2
      repeat (first | (show Walk1 _ _ _ (_ :: _) _ _; first | (show Walk1 _ _ _ (⟨_, _, _, _, _, some _⟩ :: _) _ _; refine zn1 ?_) | (show HW1 (.move _); refine wz1 ?_) | (show HW1 (.assign _); refine wz2 ?_) | (show HW1 (.binOp .add _ _ _ _); refine wz10 ?_) | (show HW1 (.binOp .lss _ _ _ _); refine wz5 ?_) | (show HW1 (.binOp .eql _ _ _ _); refine wz34 ?_) | (show HW1 (.binOp .and _ _ _ _); refine wz41 ?_) | (show HW1 (.pick _ _ _); refine wz8 ?_) | (show HW1 (.indexAddr _ _ _); refine wz26 ?_) | (show HW1 (.load _ _); refine wz44 ?_) | (show HW1 (.fieldAddr _ _ _); refine wz38 ?_) | (show HW1 (.call ⟨.builtin .len, _, _⟩); refine wz27 ?_)) | refine go1 ?_ | refine end_block_other rfl ?_ | refine end_scope (fun _ h => by cases h) ?_ | (refine walk_endD ?_ ?_; (· kernel_rfl)) | refine tri_yesA rfl ?_ | refine tri_noA rfl ?_ | refine tri_trueA rfl ?_ | refine tri_falseA rfl ?_)
      repeat (first | refine go1 ?_ | refine end_block_other rfl ?_ | refine end_scope (fun _ h => by cases h) ?_ | (refine walk_endD ?_ ?_; (· kernel_rfl)) | refine tri_yesA rfl ?_ | refine tri_noA rfl ?_ | refine tri_trueA rfl ?_ | refine tri_falseA rfl ?_)
      refine nx _ (by omega) (by omega) ?_
      exact ent_keep (by repeat (first | exact hasT_nil | refine hasT_cons rfl ?_ | refine hasT_eq rfl (svi (by omega)) ?_)) (by repeat (first | exact hasR_nil | refine hasR_cons rfl ?_))
  · obtain rfl : j = l.length := by omega
    have z3 := hms (NS l.length).2
    have z4 := hmo (NS l.length).2
    have hzs := hms zM
    clear next hNS hNo hMo cl hms hmo hN0 hNSg cH1 hM hP
    generalize NS l.length = N0 at *
    obtain ⟨i, mn, md, mu, mv⟩ := N0
    simp only [M4.c] at *
    simp only [hzc]
    repeat (first | (show Walk1 _ _ _ (_ :: _) _ _; first | (show HW1 (.move _); refine wz1 ?_) | (show HW1 (.binOp .lss _ _ _ _); refine wz5 ?_) | (show HW1 (.call ⟨.builtin .len, _, _⟩); refine wz27 ?_)) | (show WalkTo _ _ _ _ (_ :: _) _ _ _; first | (show HW2 (.move _); refine wz20 ?_) | (show HW2 (.assign _); refine wz17 ?_) | (show HW2 (.load _ _); refine wz22 ?_) | (show HW2 (.store _ _ _); refine wz36 ?_)) | refine go1 ?_ | refine end_block_other rfl ?_ | refine end_scope (fun _ h => by cases h) ?_ | (refine walk_endD ?_ ?_; (· kernel_rfl)) | refine tri_yesA rfl ?_ | refine tri_noA rfl ?_ | refine tri_trueA rfl ?_ | refine tri_falseA rfl ?_)
    refine end_ret (.c (.tuple #[.int .i64 i, .agg #[.int .i64 mn, .int .i64 md, .int .i64 mu, .int .i64 mv]])) (res_tmpC rfl rfl rfl rfl rfl rfl rfl z3) ?_
    exact fin_below fun _ => rfl
end Go.Proofs.Ytcookaiakfbdiaa
