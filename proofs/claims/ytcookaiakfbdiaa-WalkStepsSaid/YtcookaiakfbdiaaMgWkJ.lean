/- The example of chapter 22: walked. No condition. The law WalkSteps: walked. No condition. -/
import Derived.Test.YtcookaiakfbdiaaMgWkH
import Derived.Test.YtcookaiakfbdiaaMgSwp11
namespace Go.Proofs.Ytcookaiakfbdiaa
open Go.RowKit
set_option maxRecDepth 100000
set_option maxHeartbeats 1000000
section
variable {C : Ctx} {ops : Array Oper} {t : List (Nat × SV)} {h : List (Nat × Option Res)} {l : List Oper} {o : Oper} {d : Nat}
theorem walk1_callNOT {σ : Type} {f : FuncId} {xs : Array Operand} {ats : Array TypeId} {vs : List SV} {rb : List Nat} {j : Nat} {O : Obj σ} {s : σ} {u : Value} {K : St → Prop} (k : Nat) (ho : o.op = .call { callee := .value (.func f), args := xs, argTypes := ats }) (hdn : o.dst = some d) (hg : o.guard = none) (hd : dstB o.dst C.nt = true) (hf : freshB ⟨t, h⟩ d = true) (hxs : EvS ⟨t, h⟩ xs.toList vs) (hc' : tabLook calT f = some j)
    (hcon : ∀ (S' : St) e a w, Holds C S' e a w → (∀ q ∈ rb, S'.res q = (St.mk t h).res q) → Calls Try.prog j (vs.map (·.den e)).toArray w (RetNOT O w s u))
    (hK : Walk1 C Try.prog ops l ⟨(d, .tup [.p d 0, .c u]) :: t, (d, none) :: (k, some (.obj d O s)) :: h⟩ K) : Walk1 C Try.prog ops (o :: l) ⟨t, h⟩ K :=
  ⟨_, op_callNOT (C := C) (ops := ops) ho hdn hg hd hxs hc' k hcon, by simp [hf], hK⟩
end
def exA : TriS := ⟨⟨0, 0, 9⟩, ⟨5, 0, 9⟩, ⟨0, 5, 9⟩, List.replicate 9 (Value.int .i64 0), 1⟩
def exB : TriS := ⟨⟨0, 0, 4⟩, ⟨5, 0, 4⟩, ⟨0, 5, 4⟩, List.replicate 9 (Value.int .i64 0), 1⟩
theorem ex_ok : ∀ t ∈ [exA, exB], t.ok := fun t ht => by
  simp only [List.mem_cons, List.not_mem_nil, or_false] at ht
  rcases ht with rfl | rfl <;> exact ⟨rfl, fun u hu => by obtain ⟨_, rfl⟩ := List.mem_replicate.1 hu; rfl⟩
def exN : List NodeS := [⟨⟨0, 0, 4⟩, ⟨5, 5, 9⟩, -1, -1, 0, 2⟩]
theorem ex_tree : treeL [exA, exB] = (exN, [0, 1]) := by kernel_rfl
def exT : Tr := .leaf 0 0 2 ⟨0, 0, 4⟩ ⟨5, 5, 9⟩
theorem ex_treeS : TreeS [exA, exB] exN [0, 1] (some exT) where
  ok := ex_ok
  tr t h := by
    obtain rfl := Option.some.inj h
    exact ⟨⟨rfl, by decide⟩, rfl⟩
  no h := by cases h
  box x hx := by
    rw [exN, List.mem_singleton] at hx
    subst hx
    constructor <;> intro z hz <;> simp [P3.l] at hz <;> omega
  nl := by decide
  kl := by decide
  dom k hk := by simp at hk; rcases hk with rfl | rfl <;> decide
theorem ex_near1 : nearW (some exT) [exA, exB] [0, 1] ⟨1, 1, 0⟩ ⟨0, 0, 1⟩ 1 (-1) 0 = ⟨3, 1, ⟨100, 25, 5, 5⟩⟩ := by kernel_rfl
theorem ex_near2 : nearW (some exT) [exA, exB] [0, 1] ⟨1, 1, 0⟩ ⟨0, 0, 1⟩ 1 1 3 = ⟨6, 0, ⟨225, 25, 5, 5⟩⟩ := by kernel_rfl
attribute [local irreducible] Calls Walk1 WalkTo Tri EndA
theorem works22_any (w : World) : Calls Try.prog 10 #[] w fun e w' => e = .returned (.bool true) ∧ Below w.heap.size w w' := by
  have cN : ∀ w v, RdV w 19 v 2 (trisC [exA, exB]) → Calls Try.prog 14 #[v] w (RetNOT wkO w ⟨exN, [0, 1], [exA, exB], 0⟩ (.int .i64 0)) := fun w v h => walkNew_any [exA, exB] ex_ok (by decide) exN [0, 1] v w h fun w h => by
    have := build_any [exA, exB] ex_ok (by decide) (by decide) (by intro t ht; simp only [List.mem_cons, List.not_mem_nil, or_false] at ht; rcases ht with rfl | rfl <;> decide) v w h
    rw [ex_tree] at this
    exact this
  have m1 := wkNear_obj exN [0, 1] [exA, exB] 0 (some exT) ex_treeS (by decide) ⟨1, 1, 0⟩ ⟨0, 0, 1⟩ 1 (-1)
  have m2 := wkNear_obj exN [0, 1] [exA, exB] 3 (some exT) ex_treeS (by decide) ⟨1, 1, 0⟩ ⟨0, 0, 1⟩ 1 1
  rw [ex_near1] at m1
  rw [ex_near2] at m2
  simp only [P3.c, M4.c] at m1 m2
  refine calls_tri Try.func10 rfl Try.ntmps10 rfl ?_
  repeat (first | (show Walk1 _ _ _ (_ :: _) _ _; (show HW1 (.assign _); refine wz2 ?_)) | refine go1 ?_ | refine end_block_other rfl ?_ | refine end_scope (fun _ h => by cases h) ?_ | (refine walk_endD ?_ ?_; (· kernel_rfl)) | refine tri_yesA rfl ?_ | refine tri_noA rfl ?_ | refine tri_trueA rfl ?_ | refine tri_falseA rfl ?_)
  refine walk1_t (op_buildC (parts := [(2, .const (.int .i64 9))]) (vs := [.int .i64 9]) #[.int .i64 0, .int .i64 0, .int .i64 9] rfl rfl rfl rfl rfl rfl (by kernel_rfl) (by kernel_rfl)) ?_
  refine walk1_t (op_buildC (parts := [(0, .const (.int .i64 5)), (2, .const (.int .i64 9))]) (vs := [.int .i64 5, .int .i64 9]) #[.int .i64 5, .int .i64 0, .int .i64 9] rfl rfl rfl rfl rfl rfl (by kernel_rfl) (by kernel_rfl)) ?_
  refine walk1_t (op_buildC (parts := [(1, .const (.int .i64 5)), (2, .const (.int .i64 9))]) (vs := [.int .i64 5, .int .i64 9]) #[.int .i64 0, .int .i64 5, .int .i64 9] rfl rfl rfl rfl rfl rfl (by kernel_rfl) (by kernel_rfl)) ?_
  refine walk1_t (op_buildA (parts := [(0, .tmp 8), (1, .tmp 9), (2, .tmp 10)]) (vs := [.agg #[.int .i64 0, .int .i64 0, .int .i64 9], .agg #[.int .i64 5, .int .i64 0, .int .i64 9], .agg #[.int .i64 0, .int .i64 5, .int .i64 9]]) #[.int .i64 0, .int .i64 0, .int .i64 9, .int .i64 5, .int .i64 0, .int .i64 9, .int .i64 0, .int .i64 5, .int .i64 9] rfl rfl rfl rfl rfl rfl rfl (by kernel_rfl)) ?_
  refine walk1_t (op_buildC (parts := [(0, .tmp 11), (5, .const (.int .u8 1))]) (vs := [.agg #[.int .i64 0, .int .i64 0, .int .i64 9, .int .i64 5, .int .i64 0, .int .i64 9, .int .i64 0, .int .i64 5, .int .i64 9], .int .u8 1]) #[.int .i64 0, .int .i64 0, .int .i64 9, .int .i64 5, .int .i64 0, .int .i64 9, .int .i64 0, .int .i64 5, .int .i64 9, .int .i64 0, .int .i64 0, .int .i64 0, .int .i64 0, .int .i64 0, .int .i64 0, .int .i64 0, .int .i64 0, .int .i64 0, .int .u8 1] rfl rfl rfl rfl rfl rfl (by kernel_rfl) (by kernel_rfl)) ?_
  refine walk1_t (op_buildC (parts := [(2, .const (.int .i64 4))]) (vs := [.int .i64 4]) #[.int .i64 0, .int .i64 0, .int .i64 4] rfl rfl rfl rfl rfl rfl (by kernel_rfl) (by kernel_rfl)) ?_
  refine walk1_t (op_buildC (parts := [(0, .const (.int .i64 5)), (2, .const (.int .i64 4))]) (vs := [.int .i64 5, .int .i64 4]) #[.int .i64 5, .int .i64 0, .int .i64 4] rfl rfl rfl rfl rfl rfl (by kernel_rfl) (by kernel_rfl)) ?_
  refine walk1_t (op_buildC (parts := [(1, .const (.int .i64 5)), (2, .const (.int .i64 4))]) (vs := [.int .i64 5, .int .i64 4]) #[.int .i64 0, .int .i64 5, .int .i64 4] rfl rfl rfl rfl rfl rfl (by kernel_rfl) (by kernel_rfl)) ?_
  refine walk1_t (op_buildA (parts := [(0, .tmp 13), (1, .tmp 14), (2, .tmp 15)]) (vs := [.agg #[.int .i64 0, .int .i64 0, .int .i64 4], .agg #[.int .i64 5, .int .i64 0, .int .i64 4], .agg #[.int .i64 0, .int .i64 5, .int .i64 4]]) #[.int .i64 0, .int .i64 0, .int .i64 4, .int .i64 5, .int .i64 0, .int .i64 4, .int .i64 0, .int .i64 5, .int .i64 4] rfl rfl rfl rfl rfl rfl rfl (by kernel_rfl)) ?_
  refine walk1_t (op_buildC (parts := [(0, .tmp 16), (5, .const (.int .u8 1))]) (vs := [.agg #[.int .i64 0, .int .i64 0, .int .i64 4, .int .i64 5, .int .i64 0, .int .i64 4, .int .i64 0, .int .i64 5, .int .i64 4], .int .u8 1]) #[.int .i64 0, .int .i64 0, .int .i64 4, .int .i64 5, .int .i64 0, .int .i64 4, .int .i64 0, .int .i64 5, .int .i64 4, .int .i64 0, .int .i64 0, .int .i64 0, .int .i64 0, .int .i64 0, .int .i64 0, .int .i64 0, .int .i64 0, .int .i64 0, .int .u8 1] rfl rfl rfl rfl rfl rfl (by kernel_rfl) (by kernel_rfl)) ?_
  refine walk1_n (op_bsliceQ rfl rfl rfl rfl rfl rfl rfl rfl rfl rfl (by decide) (by kernel_rfl)) (by kernel_rfl) ?_
  repeat (first | (show Walk1 _ _ _ (_ :: _) _ _; first | (show HW1 (.move _); refine wz1 ?_) | (show HW1 (.assign _); refine wz2 ?_)) | refine go1 ?_ | refine end_block_other rfl ?_ | refine end_scope (fun _ h => by cases h) ?_ | (refine walk_endD ?_ ?_; (· kernel_rfl)) | refine tri_yesA rfl ?_ | refine tri_noA rfl ?_ | refine tri_trueA rfl ?_ | refine tri_falseA rfl ?_)
  refine walk1_callNOT (rb := [18]) (vs := [.s 18 0 2 2]) 900 rfl rfl rfl rfl (by kernel_rfl) evq rfl (fun S' e a w' hS hq => cN w' _ ((rdn_cells (n := 18) (us := trisC [exA, exB]) rfl (by kernel_rfl) (by kernel_rfl)) S' e a w' hq hS)) ?_
  repeat (first | (show Walk1 _ _ _ (_ :: _) _ _; first | (show Walk1 _ _ _ (⟨_, _, _, _, _, some _⟩ :: _) _ _; refine zy1 ?_) | (show HW1 (.move _); refine wz1 ?_) | (show HW1 (.assign _); refine wz2 ?_) | (show HW1 (.binOp .mul _ _ _ _); refine wz125 ?_) | (show HW1 (.binOp .eql _ _ _ _); first | refine wz30 ?_ | refine wz76 ?_) | (show HW1 (.binOp .neq _ _ _ _); refine wz61 ?_) | (show HW1 (.pick _ _ _); first | refine wz8 ?_ | refine wz7 ?_) | (show HW1 (.load _ _); refine wz3 ?_) | (show HW1 (.store _ _ _); refine wz14 ?_) | (show HW1 (.alloc _); refine wz6 ?_) | (show HW1 (.fieldAddr _ _ _); refine wz4 ?_) | (show HW1 (.extract _ _); first | refine wz16 ?_ | refine wz15 ?_ | refine wz84 ?_) | (show HW1 (.build _ _); refine wz25 ?_) | (show HW1 (.call ⟨.value (.func 15), _, _⟩); (first | refine walk1_callObj 900 (m1) rfl rfl rfl rfl evq rfl rfl (fun _ => rfl) ?_ | refine walk1_callObj0 900 (m1) rfl rfl rfl evq rfl rfl (fun _ => rfl) ?_)) | (show HW1 (.call ⟨.value (.func 15), _, _⟩); (first | refine walk1_callObj 900 (m2) rfl rfl rfl rfl evq rfl rfl (fun _ => rfl) ?_ | refine walk1_callObj0 900 (m2) rfl rfl rfl evq rfl rfl (fun _ => rfl) ?_))) | refine go1 ?_ | refine end_block_other rfl ?_ | refine end_scope (fun _ h => by cases h) ?_ | (refine walk_endD ?_ ?_; (· kernel_rfl)) | refine tri_yesA rfl ?_ | refine tri_noA rfl ?_ | refine tri_trueA rfl ?_ | refine tri_falseA rfl ?_)

  refine end_ret (.c (.bool true)) (res_tmp rfl rfl) ?_
  exact fin_below fun _ => rfl
end Go.Proofs.Ytcookaiakfbdiaa
namespace Go.Proofs.Ytcookaiakfbdiaa
open Go.RowKit
set_option maxRecDepth 100000
set_option maxHeartbeats 2000000
theorem steps_or {n n' d : Nat} {b : Bool} (h : 0 < d → b = true → n' ≠ n) : n' ≠ n ∨ (n' = n ∧ d = 0) ∨ (n' = n ∧ 0 < d ∧ b = false) := by
  by_cases hn : n' = n
  · cases b with
    | false => by_cases hd : d = 0; exact .inr (.inl ⟨hn, hd⟩); exact .inr (.inr ⟨hn, by omega, rfl⟩)
    | true => by_cases hd : d = 0; exact .inr (.inl ⟨hn, hd⟩); exact absurd hn (h (by omega) rfl)
  · exact .inl hn
attribute [local irreducible] Calls Walk1 WalkTo Tri EndA
theorem walkSteps_walk (v : Value) (es : List TriS) (hok : ∀ e ∈ es, e.ok) (v2 : Value) (qs : List AskS) (w : World) (hv : FS w 19 v es.length (trisC es)) (hv2 : FS w 9 v2 qs.length (asksC qs)) :
    Calls Try.prog 6 #[v, v2] w fun e w' => e = .returned (.bool true) ∧ Below w.heap.size w w' := by
  obtain ⟨D, u, hD, hDok, hfx, hcv⟩ := few21_cut hv hok
  have hrd := hv.rd
  have hsl := hv.2
  have cf := fun w h => few21_any es.length (trisC es) v w ⟨h, hsl⟩
  rw [hcv] at cf
  have hdr := hfx.rd
  have hsx := hfx.2
  have cw := fun w => works22_any w
  by_cases hfar : ∃ t ∈ D, farT t = true
  · have cN := fun w h => walkNewFar_any D hDok (by omega) hfar u w h
    have cB := fun w h => buildFar_any D hDok (by omega) hfar u w h
    clear hfar hcv hsl hfx hok hDok hv
    generalize trisC D = XS at *
    generalize trisC es = ES at *
    generalize es.length = EL at *
    generalize D.length = n at *
    refine calls_tri Try.func6 rfl Try.ntmps6 rfl ?_
    repeat (first | (show Walk1 _ _ _ (_ :: _) _ _; first | (show Walk1 _ _ _ (⟨_, _, _, _, _, some _⟩ :: _) _ _; refine zy1 ?_) | (show HW1 (.move _); refine wz1 ?_) | (show HW1 (.assign _); refine wz2 ?_) | (show HW1 (.binOp .eql _ _ _ _); refine wz30 ?_) | (show HW1 (.binOp .neq _ _ _ _); refine wz61 ?_) | (show HW1 (.pick _ _ _); refine wz8 ?_) | (show HW1 (.store _ _ _); refine wz14 ?_) | (show HW1 (.alloc _); refine wz6 ?_) | (show HW1 (.extract _ _); first | refine wz16 ?_ | refine wz15 ?_) | (show HW1 (.call ⟨.value (.func 8), _, _⟩); (refine cwalk1M 8 ?_; refine ⟨_, _, callM_1 (rdn_old hrd (by omega) rfl) (fun e w h1 => cf w h1), ?_⟩)) | (show HW1 (.call ⟨.value (.func 14), _, _⟩); (refine cwalk1M 14 ?_; refine ⟨_, _, callM_1 (rdn_old hdr (by omega) rfl) (fun e w h1 => cN w h1), ?_⟩)) | (show HW1 (.call ⟨.value (.func 9), _, _⟩); (refine cwalk1M 9 ?_; refine ⟨_, _, callM_1 (rdn_old hdr (by omega) rfl) (fun e w h1 => cB w h1), ?_⟩)) | (show HW1 (.call ⟨.value (.func 10), _, _⟩); ((first | refine cwalk11 10 ?_ | refine cwalk10 10 ?_); refine ⟨_, fun e w => cw w, ?_⟩))) | refine go1 ?_ | refine end_block_other rfl ?_ | refine end_scope (fun _ h => by cases h) ?_ | (refine walk_endD ?_ ?_; (· kernel_rfl)) | refine tri_yesA rfl ?_ | refine tri_noA rfl ?_ | refine tri_trueA rfl ?_ | refine tri_falseA rfl ?_)
    refine end_ret (.c (.bool true)) (res_tmp rfl rfl) ?_
    exact fin_below fun _ => rfl
  · have hnf : ∀ t ∈ D, farT t = false := fun t ht => by
      cases hb : farT t with
      | false => rfl
      | true => exact absurd ⟨t, ht, hb⟩ hfar
    obtain ⟨T, hW⟩ := walk_of D hDok (by omega) hnf
    have hcost : costT T ≤ 2000000 := by have := hW.cost; have := hW.ts.nl; omega
    have hbound := hW.cost
    have hNb := hW.ts.nl
    have cN := fun w h => walkNew_all D hDok (by omega) hnf u w h
    have cB := fun w h => build_all D hDok (by omega) hnf u w h
    have hrd2 := hv2.rd
    have hql := asks_len qs
    have hqr := asks_row qs
    have cE := fun (a : AskS) (n : Nat) (hn : n + costT T ≤ 100000000) => wkNear_obj _ _ D n T hW.ts hn a.o a.d a.mask a.skip
    have cA := fun (a : AskS) (n : Nat) (hn : n + costT T ≤ 100000000) => wkAny_obj _ _ D n T hW.ts hn a.o a.d a.mask a.skip a.near
    have cS : ∀ n : Nat, ObjM wkO 20 (fun b => #[.pointer (some ⟨b, 0, none⟩)]) ⟨(treeL D).1, (treeL D).2, D, n⟩ ⟨(treeL D).1, (treeL D).2, D, n⟩ (.int .i64 (n : Int)) := fun n => wkSteps_obj ⟨(treeL D).1, (treeL D).2, D, n⟩
    have cM := fun (a : AskS) w => mayT_any a.o a.d w
    have hE : ∀ (a : AskS) (n : Nat), n ≤ (nearW T D (treeL D).2 a.o a.d a.mask a.skip n).n ∧ (nearW T D (treeL D).2 a.o a.d a.mask a.skip n).n ≤ n + costT T ∧ ((nearW T D (treeL D).2 a.o a.d a.mask a.skip n).n ≠ n ∨ ((nearW T D (treeL D).2 a.o a.d a.mask a.skip n).n = n ∧ D.length = 0) ∨ ((nearW T D (treeL D).2 a.o a.d a.mask a.skip n).n = n ∧ 0 < D.length ∧ mayP a.o a.d = false)) := fun a n => ⟨(hW.less ..).1, (hW.less ..).2, steps_or fun h1 h2 => by have := hW.steps h1 a.o a.d a.mask a.skip n h2; omega⟩
    have hA : ∀ (a : AskS) (n : Nat), n ≤ (anyW T D (treeL D).2 a.o a.d a.mask a.skip a.near n).1 ∧ (anyW T D (treeL D).2 a.o a.d a.mask a.skip a.near n).1 ≤ n + costT T ∧ ((anyW T D (treeL D).2 a.o a.d a.mask a.skip a.near n).1 ≠ n ∨ ((anyW T D (treeL D).2 a.o a.d a.mask a.skip a.near n).1 = n ∧ D.length = 0) ∨ ((anyW T D (treeL D).2 a.o a.d a.mask a.skip a.near n).1 = n ∧ 0 < D.length ∧ mayP a.o a.d = false)) := fun a n => ⟨(hW.lessA ..).1, (hW.lessA ..).2, steps_or fun h1 h2 => by have := hW.stepsA h1 a.o a.d a.mask a.skip a.near n h2; omega⟩
    obtain ⟨FE, hFE⟩ : ∃ FE : AskS → Nat → WSt, ∀ a n, FE a n = nearW T D (treeL D).2 a.o a.d a.mask a.skip n := ⟨_, fun _ _ => rfl⟩
    obtain ⟨FA, hFA⟩ : ∃ FA : AskS → Nat → Nat × Bool, ∀ a n, FA a n = anyW T D (treeL D).2 a.o a.d a.mask a.skip a.near n := ⟨_, fun _ _ => rfl⟩
    simp only [← hFE] at cE hE
    simp only [← hFA] at cA hA
    clear hFE hFA hok hDok hv hcv hfx hsx hsl hv2 hW hnf hfar
    generalize (treeL D).1 = NN at *
    generalize (treeL D).2 = KK at *
    generalize nodesC NN = NC at *
    generalize ordC KK = KC at *
    generalize NN.length = NL at *
    generalize KK.length = KL at *
    generalize trisC D = XS at *
    generalize trisC es = ES at *
    generalize es.length = EL at *
    generalize hdn : D.length = dn at *
    generalize asksC qs = QS at *
    generalize costT T = cT at *
    refine calls_tri Try.func6 rfl Try.ntmps6 rfl ?_
    repeat (first | (show Walk1 _ _ _ (_ :: _) _ _; first | (show HW1 (.move _); refine wz1 ?_) | (show HW1 (.assign _); refine wz2 ?_) | (show HW1 (.call ⟨.value (.func 8), _, _⟩); (refine cwalk1M 8 ?_; refine ⟨_, _, callM_1 (rdn_old hrd (by omega) rfl) (fun e w h1 => cf w h1), ?_⟩))) | refine go1 ?_ | refine end_block_other rfl ?_ | refine end_scope (fun _ h => by cases h) ?_ | (refine walk_endD ?_ ?_; (· kernel_rfl)) | refine tri_yesA rfl ?_ | refine tri_noA rfl ?_ | refine tri_trueA rfl ?_ | refine tri_falseA rfl ?_)
    refine walk1_callNOT (rb := []) (vs := [.c u]) 900 rfl rfl rfl rfl (by kernel_rfl) evq rfl (fun S' e a w' hS _ => cN w' (rdn_old (S := S') hdr (by omega) rfl S' e a w' (fun _ h => by cases h) hS)) ?_
    repeat (first | (show Walk1 _ _ _ (_ :: _) _ _; first | (show HW1 (.move _); refine wz1 ?_) | (show HW1 (.assign _); refine wz2 ?_) | (show HW1 (.extract _ _); refine wz84 ?_)) | refine go1 ?_ | refine end_block_other rfl ?_ | refine end_scope (fun _ h => by cases h) ?_ | (refine walk_endD ?_ ?_; (· kernel_rfl)) | refine tri_yesA rfl ?_ | refine tri_noA rfl ?_ | refine tri_trueA rfl ?_ | refine tri_falseA rfl ?_)
    refine walk1_callB (rb := []) (vs := [.c u]) 901 902 rfl rfl rfl rfl evq rfl rfl (by kernel_rfl) (fun S' e a w' hS _ => cB w' (rdn_old (S := S') hdr (by omega) rfl S' e a w' (fun _ h => by cases h) hS)) ?_
    repeat (first | (show Walk1 _ _ _ (_ :: _) _ _; first | (show HW1 (.move _); refine wz1 ?_) | (show HW1 (.alloc _); refine wz6 ?_) | (show HW1 (.extract _ _); refine wz84 ?_)) | refine go1 ?_ | refine end_block_other rfl ?_ | refine end_scope (fun _ h => by cases h) ?_ | (refine walk_endD ?_ ?_; (· kernel_rfl)) | refine tri_yesA rfl ?_ | refine tri_noA rfl ?_ | refine tri_trueA rfl ?_ | refine tri_falseA rfl ?_)
    refine walk1_b (op_storeB (q1 := 901) (q2 := 902) rfl rfl rfl rfl rfl (fun _ => rfl) rfl rfl rfl rfl (fun _ => rfl)) ?_
    repeat (first | (show Walk1 _ _ _ (_ :: _) _ _; first | (show Walk1 _ _ _ (⟨_, _, _, _, _, some _⟩ :: _) _ _; refine zy1 ?_) | (show HW1 (.move _); refine wz1 ?_) | (show HW1 (.assign _); first | refine wz13 ?_ | refine wz2 ?_) | (show HW1 (.binOp .eql _ _ _ _); refine wz76 ?_) | (show HW1 (.binOp .neq _ _ _ _); refine wz61 ?_) | (show HW1 (.pick _ _ _); refine wz7 ?_) | (show HW1 (.call ⟨.value (.func 20), _, _⟩); (first | refine walk1_callObj 900 (cS 0) rfl rfl rfl rfl evq rfl rfl (fun _ => rfl) ?_ | refine walk1_callObj0 900 (cS 0) rfl rfl rfl evq rfl rfl (fun _ => rfl) ?_))) | refine go1 ?_ | refine end_block_other rfl ?_ | refine end_scope (fun _ h => by cases h) ?_ | (refine walk_endD ?_ ?_; (· kernel_rfl)) | refine tri_yesA rfl ?_ | refine tri_noA rfl ?_ | refine tri_trueA rfl ?_ | refine tri_falseA rfl ?_)
    refine tri_loop (X := Nat × Nat) (fun x => ⟨[(9, SV.c (.int .i64 ((x.1 : Nat) : Int))), (0, .c u), (1, .c v2), (4, .c (.bool false)), (5, .p 18 0), (7, .p 7 0)], [(900, some (.obj 18 wkO ⟨NN, KK, D, x.2⟩)), (7, some (.blk 7 31 (SA.l [.v 901, .v 902]))), (901, some (.own 901 37 10 NL NC)), (902, some (.own 902 3 1 KL KC))]⟩)
      (fun x => x.1 ≤ qs.length ∧ x.1 ≤ 10 ∧ x.2 ≤ 4000000 * x.1) (fun x => 10 - x.1) (0, 0) ⟨by omega, by omega, by omega⟩ (by exact ent_kp) ?_
    rintro ⟨j, n⟩ hj K next
    dsimp only at hj next ⊢
    by_cases h : j < qs.length
    · by_cases h8 : j < 10
      · obtain ⟨a, ha⟩ : ∃ a, qs[j]? = some a := ⟨_, List.getElem?_eq_getElem h⟩
        have hq1 := hqr j a ha
        have hlt : j * 9 + 9 ≤ QS.length := by rw [hql]; omega
        have cE1 := fun n hn => cE a n hn
        have cA1 := fun n hn => cA a n hn
        have hE1 := hE a
        have hA1 := hA a
        have cM1 := fun w => cM a w
        clear cE cA hE hA cM hqr ha cN cB cf hrd
        generalize FE a = GE at *
        generalize FA a = GA at *
        obtain ⟨⟨ox, oy, oz⟩, ⟨dx, dy, dz⟩, mask, skip, near⟩ := a
        simp only [AskS.c, askC, P3.c] at *
        generalize mayP ⟨ox, oy, oz⟩ ⟨dx, dy, dz⟩ = MP at *
        repeat (first | (show Walk1 _ _ _ (_ :: _) _ _; first | (show Walk1 _ _ _ (⟨_, _, _, _, _, some _⟩ :: _) _ _; refine zy1 ?_) | (show HW1 (.move _); first | refine wz40 ?_ | refine wz1 ?_) | (show HW1 (.binOp .lss _ _ _ _); refine wz5 ?_) | (show HW1 (.pick _ _ _); refine wz8 ?_) | (show HW1 (.indexAddr _ _ _); refine wz26 ?_) | (show HW1 (.load _ _); refine wz51 ?_) | (show HW1 (.store _ _ _); refine wz14 ?_) | (show HW1 (.alloc _); refine wz6 ?_) | (show HW1 (.call ⟨.builtin .len, _, _⟩); refine wz27 ?_)) | refine go1 ?_ | refine end_block_other rfl ?_ | refine end_scope (fun _ h => by cases h) ?_ | (refine walk_endD ?_ ?_; (· kernel_rfl)) | refine tri_yesA rfl ?_ | refine tri_noA rfl ?_ | refine tri_trueA rfl ?_ | refine tri_falseA rfl ?_)
        refine tri_loop (X := Nat × Nat) (fun y => ⟨[(55, SV.c (.int .i64 ((y.1 : Nat) : Int))), (9, SV.c (.int .i64 ((j : Nat) : Int))), (0, .c u), (1, .c v2), (4, .c (.bool false)), (5, .p 18 0), (7, .p 7 0), (10, .p 10 0)], [(900, some (.obj 18 wkO ⟨NN, KK, D, y.2⟩)), (7, some (.blk 7 31 (SA.l [.v 901, .v 902]))), (901, some (.own 901 37 10 NL NC)), (902, some (.own 902 3 1 KL KC)), (10, some (.blk 10 26 (.c #[.int .i64 ox, .int .i64 oy, .int .i64 oz, .int .i64 dx, .int .i64 dy, .int .i64 dz, .int .u8 (bvi mask), .int .i64 skip, .bool near])))]⟩)
          (fun y => y.1 ≤ 2 ∧ y.2 ≤ 4000000 * j + 2000000 * y.1) (fun y => 2 - y.1) (0, n) ⟨by omega, by omega⟩ (by exact ent_kp) ?_
        rintro ⟨k, m⟩ hk K2 next2
        dsimp only at hk next2 ⊢
        by_cases h2 : k < 2
        · have nx := fun S' m' => next2 S' (k + 1, m')
          dsimp only at nx
          have cS1 := cS m
          obtain rfl | rfl : k = 0 ∨ k = 1 := by omega
          · have cE2 := cE1 m (by omega)
            have hE2 := hE1 m
            clear cE1 cA1 hE1 hA1 next next2
            generalize GE m = G at *
            obtain ⟨m2, gi, gm⟩ := G
            dsimp only at cE2 hE2
            have cS2 := cS m2
            clear cS
            rcases hE2.2.2 with hz | ⟨hz, hz1⟩ | ⟨hz, hz1, rfl⟩
            all_goals
              repeat (first | (show Walk1 _ _ _ (_ :: _) _ _; first | (show Walk1 _ _ _ (⟨_, _, _, _, _, some _⟩ :: _) _ _; first | refine zy1 ?_ | refine zn1 ?_) | (show HW1 (.move _); refine wz1 ?_) | (show HW1 (.assign _); refine wz2 ?_) | (show HW1 (.binOp .add _ _ _ _); refine wz10 ?_) | (show HW1 (.binOp .sub _ _ _ _); refine wz35 ?_) | (show HW1 (.binOp .lss _ _ _ _); refine wz5 ?_) | (show HW1 (.binOp .gtr _ _ _ _); refine wz33 ?_) | (show HW1 (.binOp .eql _ _ _ _); refine wz30 ?_) | (show HW1 (.pick _ _ _); first | refine wz8 ?_ | refine wz7 ?_) | (show HW1 (.load _ _); first | refine wz3 ?_ | refine wz31 ?_) | (show HW1 (.fieldAddr _ _ _); refine wz4 ?_) | (show HW1 (.call ⟨.builtin .len, _, _⟩); first | refine wz57 ?_ | refine wz27 ?_) | (show HW1 (.call ⟨.value (.func 20), _, _⟩); (first | refine walk1_callObj 900 (cS1) rfl rfl rfl rfl evq rfl rfl (fun _ => rfl) ?_ | refine walk1_callObj0 900 (cS1) rfl rfl rfl evq rfl rfl (fun _ => rfl) ?_)) | (show HW1 (.call ⟨.value (.func 20), _, _⟩); (first | refine walk1_callObj 900 (cS2) rfl rfl rfl rfl evq rfl rfl (fun _ => rfl) ?_ | refine walk1_callObj0 900 (cS2) rfl rfl rfl evq rfl rfl (fun _ => rfl) ?_)) | (show HW1 (.call ⟨.value (.func 15), _, _⟩); (first | refine walk1_callObj 900 (cE2) rfl rfl rfl rfl evq rfl rfl (fun _ => rfl) ?_ | refine walk1_callObj0 900 (cE2) rfl rfl rfl evq rfl rfl (fun _ => rfl) ?_)) | (show HW1 (.call ⟨.value (.func 12), _, _⟩); ((first | refine cwalk11 12 ?_ | refine cwalk10 12 ?_); refine ⟨_, fun e w => cM1 w, ?_⟩))) | refine go1 ?_ | refine end_block_other rfl ?_ | refine end_scope (fun _ h => by cases h) ?_ | (refine walk_endD ?_ ?_; (· kernel_rfl)) | refine tri_yesA rfl ?_ | refine tri_noA rfl ?_ | refine tri_trueA rfl ?_ | refine tri_falseA rfl ?_)
              exact nx _ m2 (by omega) (by omega) (by exact ent_kp)
          · have cA2 := cA1 m (by omega)
            have hA2 := hA1 m
            clear cE1 cA1 hE1 hA1 next next2
            generalize GA m = G at *
            obtain ⟨m2, gb⟩ := G
            dsimp only at cA2 hA2
            have cS2 := cS m2
            clear cS
            rcases hA2.2.2 with hz | ⟨hz, hz1⟩ | ⟨hz, hz1, rfl⟩
            all_goals
              repeat (first | (show Walk1 _ _ _ (_ :: _) _ _; first | (show Walk1 _ _ _ (⟨_, _, _, _, _, some _⟩ :: _) _ _; first | refine zy1 ?_ | refine zn1 ?_) | (show HW1 (.move _); refine wz1 ?_) | (show HW1 (.assign _); refine wz2 ?_) | (show HW1 (.binOp .add _ _ _ _); refine wz10 ?_) | (show HW1 (.binOp .sub _ _ _ _); refine wz35 ?_) | (show HW1 (.binOp .lss _ _ _ _); refine wz5 ?_) | (show HW1 (.binOp .gtr _ _ _ _); refine wz33 ?_) | (show HW1 (.binOp .eql _ _ _ _); refine wz30 ?_) | (show HW1 (.pick _ _ _); first | refine wz8 ?_ | refine wz7 ?_) | (show HW1 (.load _ _); first | refine wz3 ?_ | refine wz31 ?_) | (show HW1 (.fieldAddr _ _ _); refine wz4 ?_) | (show HW1 (.call ⟨.builtin .len, _, _⟩); first | refine wz57 ?_ | refine wz27 ?_) | (show HW1 (.call ⟨.value (.func 20), _, _⟩); (first | refine walk1_callObj 900 (cS1) rfl rfl rfl rfl evq rfl rfl (fun _ => rfl) ?_ | refine walk1_callObj0 900 (cS1) rfl rfl rfl evq rfl rfl (fun _ => rfl) ?_)) | (show HW1 (.call ⟨.value (.func 20), _, _⟩); (first | refine walk1_callObj 900 (cS2) rfl rfl rfl rfl evq rfl rfl (fun _ => rfl) ?_ | refine walk1_callObj0 900 (cS2) rfl rfl rfl evq rfl rfl (fun _ => rfl) ?_)) | (show HW1 (.call ⟨.value (.func 17), _, _⟩); (first | refine walk1_callObj 900 (cA2) rfl rfl rfl rfl evq rfl rfl (fun _ => rfl) ?_ | refine walk1_callObj0 900 (cA2) rfl rfl rfl evq rfl rfl (fun _ => rfl) ?_)) | (show HW1 (.call ⟨.value (.func 12), _, _⟩); ((first | refine cwalk11 12 ?_ | refine cwalk10 12 ?_); refine ⟨_, fun e w => cM1 w, ?_⟩))) | refine go1 ?_ | refine end_block_other rfl ?_ | refine end_scope (fun _ h => by cases h) ?_ | (refine walk_endD ?_ ?_; (· kernel_rfl)) | refine tri_yesA rfl ?_ | refine tri_noA rfl ?_ | refine tri_trueA rfl ?_ | refine tri_falseA rfl ?_)
              exact nx _ m2 (by omega) (by omega) (by exact ent_kp)
        · obtain rfl : k = 2 := by omega
          repeat (first | (show Walk1 _ _ _ (_ :: _) _ _; first | (show HW1 (.move _); refine wz1 ?_) | (show HW1 (.assign _); refine wz2 ?_) | (show HW1 (.binOp .add _ _ _ _); refine wz10 ?_) | (show HW1 (.binOp .lss _ _ _ _); refine wz5 ?_)) | refine go1 ?_ | refine end_block_other rfl ?_ | refine end_scope (fun _ h => by cases h) ?_ | (refine walk_endD ?_ ?_; (· kernel_rfl)) | refine tri_yesA rfl ?_ | refine tri_noA rfl ?_ | refine tri_trueA rfl ?_ | refine tri_falseA rfl ?_)
          exact next _ (j + 1, m) ⟨by omega, by omega, by omega⟩ (by dsimp only; omega) (by exact ent_kp)
      · obtain rfl : j = 10 := by omega
        repeat (first | (show Walk1 _ _ _ (_ :: _) _ _; first | (show Walk1 _ _ _ (⟨_, _, _, _, _, some _⟩ :: _) _ _; refine zy1 ?_) | (show HW1 (.move _); refine wz1 ?_) | (show HW1 (.assign _); refine wz2 ?_) | (show HW1 (.binOp .lss _ _ _ _); refine wz5 ?_) | (show HW1 (.pick _ _ _); refine wz8 ?_) | (show HW1 (.call ⟨.builtin .len, _, _⟩); refine wz27 ?_) | (show HW1 (.call ⟨.value (.func 10), _, _⟩); ((first | refine cwalk11 10 ?_ | refine cwalk10 10 ?_); refine ⟨_, fun e w => cw w, ?_⟩))) | refine go1 ?_ | refine end_block_other rfl ?_ | refine end_scope (fun _ h => by cases h) ?_ | (refine walk_endD ?_ ?_; (· kernel_rfl)) | refine tri_yesA rfl ?_ | refine tri_noA rfl ?_ | refine tri_trueA rfl ?_ | refine tri_falseA rfl ?_)
        refine end_ret (.c (.bool true)) (res_tmp rfl rfl) ?_
        exact fin_below fun _ => rfl
    · obtain rfl : j = qs.length := by omega
      repeat (first | (show Walk1 _ _ _ (_ :: _) _ _; first | (show Walk1 _ _ _ (⟨_, _, _, _, _, some _⟩ :: _) _ _; refine zn1 ?_) | (show HW1 (.move _); refine wz1 ?_) | (show HW1 (.assign _); refine wz2 ?_) | (show HW1 (.binOp .lss _ _ _ _); refine wz5 ?_) | (show HW1 (.pick _ _ _); refine wz7 ?_) | (show HW1 (.call ⟨.builtin .len, _, _⟩); refine wz27 ?_) | (show HW1 (.call ⟨.value (.func 10), _, _⟩); ((first | refine cwalk11 10 ?_ | refine cwalk10 10 ?_); refine ⟨_, fun e w => cw w, ?_⟩))) | refine go1 ?_ | refine end_block_other rfl ?_ | refine end_scope (fun _ h => by cases h) ?_ | (refine walk_endD ?_ ?_; (· kernel_rfl)) | refine tri_yesA rfl ?_ | refine tri_noA rfl ?_ | refine tri_trueA rfl ?_ | refine tri_falseA rfl ?_)
      refine end_ret (.c (.bool true)) (res_tmp rfl rfl) ?_
      exact fin_below fun _ => rfl
end Go.Proofs.Ytcookaiakfbdiaa
