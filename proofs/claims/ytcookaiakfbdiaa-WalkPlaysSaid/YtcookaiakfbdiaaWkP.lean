/- The law WalkPlays: walked. No condition. -/
import Derived.Test.YtcookaiakfbdiaaMgWkH
import Derived.Test.YtcookaiakfbdiaaMgWkN
import Derived.Test.YtcookaiakfbdiaaMgSwp11
namespace Go.Proofs.Ytcookaiakfbdiaa
open Go.RowKit
set_option maxRecDepth 100000
set_option maxHeartbeats 2000000
attribute [local irreducible] Calls Walk1 WalkTo Tri EndA
theorem walkPlays_walk (cH : HitR) (v : Value) (es : List TriS) (hok : ∀ e ∈ es, e.ok) (v2 : Value) (qs : List AskS) (w : World) (hv : FS w 19 v es.length (trisC es)) (hv2 : FS w 9 v2 qs.length (asksC qs)) :
    Calls Try.prog 5 #[v, v2] w fun e w' => e = .returned (.bool true) ∧ Below w.heap.size w w' := by
  obtain ⟨D, u, hD, hDok, hfx, hcv⟩ := few21_cut hv hok
  have hrd := hv.rd
  have hsl := hv.2
  have cf := fun w h => few21_any es.length (trisC es) v w ⟨h, hsl⟩
  rw [hcv] at cf
  have hdr := hfx.rd
  have hsx := hfx.2
  have cw := fun w => works22_any w
  by_cases hfar : ∃ t ∈ D, farT t = true
  · have cN := fun w h => walkNewFar_any D hDok (by omega) hfar u w h
    clear hfar hcv hsl hfx hok hDok hv
    generalize trisC D = XS at *
    generalize trisC es = ES at *
    generalize es.length = EL at *
    generalize D.length = n at *
    refine calls_tri Try.func5 rfl Try.ntmps5 rfl ?_
    repeat (first | (show Walk1 _ _ _ (_ :: _) _ _; first | (show Walk1 _ _ _ (⟨_, _, _, _, _, some _⟩ :: _) _ _; refine zy1 ?_) | (show HW1 (.move _); refine wz1 ?_) | (show HW1 (.assign _); refine wz2 ?_) | (show HW1 (.binOp .eql _ _ _ _); first | refine wz30 ?_ | refine wz126 ?_) | (show HW1 (.binOp .neq _ _ _ _); refine wz61 ?_) | (show HW1 (.pick _ _ _); refine wz8 ?_) | (show HW1 (.extract _ _); first | refine wz16 ?_ | refine wz15 ?_) | (show HW1 (.call ⟨.value (.func 8), _, _⟩); (refine cwalk1M 8 ?_; refine ⟨_, _, callM_1 (rdn_old hrd (by omega) rfl) (fun e w h1 => cf w h1), ?_⟩)) | (show HW1 (.call ⟨.value (.func 14), _, _⟩); (refine cwalk1M 14 ?_; refine ⟨_, _, callM_1 (rdn_old hdr (by omega) rfl) (fun e w h1 => cN w h1), ?_⟩)) | (show HW1 (.call ⟨.value (.func 10), _, _⟩); ((first | refine cwalk11 10 ?_ | refine cwalk10 10 ?_); refine ⟨_, fun e w => cw w, ?_⟩))) | refine go1 ?_ | refine end_block_other rfl ?_ | refine end_scope (fun _ h => by cases h) ?_ | (refine walk_endD ?_ ?_; (· kernel_rfl)) | refine tri_yesA rfl ?_ | refine tri_noA rfl ?_ | refine tri_trueA rfl ?_ | refine tri_falseA rfl ?_)
    refine end_ret (.c (.bool true)) (res_tmp rfl rfl) ?_
    exact fin_below fun _ => rfl
  · have hnf : ∀ t ∈ D, farT t = false := fun t ht => by
      cases hb : farT t with
      | false => rfl
      | true => exact absurd ⟨t, ht, hb⟩ hfar
    obtain ⟨T, hW⟩ := walk_of D hDok (by omega) hnf
    have hcost : costT T ≤ 2000000 := by have := hW.cost; have := hW.ts.nl; omega
    have cN := fun w h => walkNew_all D hDok (by omega) hnf u w h
    have hrd2 := hv2.rd
    have hql := asks_len qs
    have hqr := asks_row qs
    have cE := fun (a : AskS) (n : Nat) (hn : n + costT T ≤ 100000000) => wkNear_obj _ _ D n T hW.ts hn a.o a.d a.mask a.skip
    have cA := fun (a : AskS) (n : Nat) (hn : n + costT T ≤ 100000000) => wkAny_obj _ _ D n T hW.ts hn a.o a.d a.mask a.skip a.near
    have hE1 : ∀ (a : AskS) (n : Nat), (nearW T D (treeL D).2 a.o a.d a.mask a.skip n).i = (nearS D a.o a.d a.mask a.skip D.length).1 ∧ (nearW T D (treeL D).2 a.o a.d a.mask a.skip n).m = (nearS D a.o a.d a.mask a.skip D.length).2 := fun a n => hW.near ..
    have hA1 : ∀ (a : AskS) (n : Nat), (anyW T D (treeL D).2 a.o a.d a.mask a.skip a.near n).2 = anyS D a.o a.d a.mask a.skip a.near D.length := fun a n => hW.any ..
    have hEn : ∀ (a : AskS) (n : Nat), (nearW T D (treeL D).2 a.o a.d a.mask a.skip n).n ≤ n + 2000000 := fun a n => Nat.le_trans (hW.less ..).2 (by omega)
    have hAn : ∀ (a : AskS) (n : Nat), (anyW T D (treeL D).2 a.o a.d a.mask a.skip a.near n).1 ≤ n + 2000000 := fun a n => Nat.le_trans (hW.lessA ..).2 (by omega)
    have cRN := fun (a : AskS) w h => refNear_any cH D (by omega) hDok a.o a.d a.mask a.skip u w ⟨h, hsx⟩
    have cRA := fun (a : AskS) w h => refAny_any cH D (by omega) hDok a.o a.d a.mask a.skip a.near u w ⟨h, hsx⟩
    have cD1 := fun (a : AskS) w b hB => deadNear22w_any a.o a.d a.mask a.skip w b hB
    have cD2 := fun w b hB => deadSteps22w_any w b hB
    have cU1 := fun (a : AskS) w => nullAny22w_any a.o a.d a.mask a.skip a.near w
    have cU2 := fun w => nullSteps22w_any w
    have hms : ∀ m : M4, m.c.size = 4 := fun _ => rfl
    have hmo : ∀ m : M4, m.c.all (·.oneCell') = true := fun m => by simp [M4.c]; exact ⟨rfl, rfl, rfl, rfl⟩
    have hzs := hms zM
    have hzo := hmo zM
    have hmr := fun m => eqMt_refl m
    obtain ⟨FE, hFE⟩ : ∃ FE : AskS → Nat → WSt, ∀ a n, FE a n = nearW T D (treeL D).2 a.o a.d a.mask a.skip n := ⟨_, fun _ _ => rfl⟩
    obtain ⟨FA, hFA⟩ : ∃ FA : AskS → Nat → Nat × Bool, ∀ a n, FA a n = anyW T D (treeL D).2 a.o a.d a.mask a.skip a.near n := ⟨_, fun _ _ => rfl⟩
    simp only [← hFE] at cE hE1 hEn
    simp only [← hFA] at cA hA1 hAn
    clear hFE hFA hok hDok hv hcv hfx hsx hsl cH hv2 hW hnf hfar
    generalize (treeL D).1 = NN at *
    generalize (treeL D).2 = KK at *
    generalize trisC D = XS at *
    generalize trisC es = ES at *
    generalize es.length = EL at *
    generalize hdn : D.length = dn at *
    generalize asksC qs = QS at *
    refine calls_tri Try.func5 rfl Try.ntmps5 rfl ?_
    repeat (first | (show Walk1 _ _ _ (_ :: _) _ _; first | (show HW1 (.move _); refine wz1 ?_) | (show HW1 (.assign _); refine wz2 ?_) | (show HW1 (.call ⟨.value (.func 8), _, _⟩); (refine cwalk1M 8 ?_; refine ⟨_, _, callM_1 (rdn_old hrd (by omega) rfl) (fun e w h1 => cf w h1), ?_⟩))) | refine go1 ?_ | refine end_block_other rfl ?_ | refine end_scope (fun _ h => by cases h) ?_ | (refine walk_endD ?_ ?_; (· kernel_rfl)) | refine tri_yesA rfl ?_ | refine tri_noA rfl ?_ | refine tri_trueA rfl ?_ | refine tri_falseA rfl ?_)
    refine walk1_callNOT (rb := []) (vs := [.c u]) 900 rfl rfl rfl rfl (by kernel_rfl) evq rfl (fun S' e a w' hS _ => cN w' (rdn_old (S := S') hdr (by omega) rfl S' e a w' (fun _ h => by cases h) hS)) ?_
    repeat (first | (show Walk1 _ _ _ (_ :: _) _ _; first | (show HW1 (.move _); refine wz1 ?_) | (show HW1 (.assign _); first | refine wz13 ?_ | refine wz2 ?_) | (show HW1 (.binOp .eql _ _ _ _); refine wz76 ?_) | (show HW1 (.binOp .neq _ _ _ _); refine wz61 ?_) | (show HW1 (.alloc _); refine wz6 ?_) | (show HW1 (.extract _ _); refine wz84 ?_)) | refine go1 ?_ | refine end_block_other rfl ?_ | refine end_scope (fun _ h => by cases h) ?_ | (refine walk_endD ?_ ?_; (· kernel_rfl)) | refine tri_yesA rfl ?_ | refine tri_noA rfl ?_ | refine tri_trueA rfl ?_ | refine tri_falseA rfl ?_)
    refine tri_loop (X := Nat × Nat) (fun x => ⟨[(9, SV.c (.int .i64 ((x.1 : Nat) : Int))), (0, .c u), (1, .c v2), (4, .c (.bool false)), (5, .p 21 0), (7, .p 7 0), (8, .c (.pointer none))], [(900, some (.obj 21 wkO ⟨NN, KK, D, x.2⟩)), (7, some (.blk 7 59 (.c deadWk)))]⟩)
      (fun x => x.1 ≤ qs.length ∧ x.1 ≤ 15 ∧ x.2 ≤ 4000000 * x.1) (fun x => 15 - x.1) (0, 0) ⟨by omega, by omega, by omega⟩ (by exact ent_kp) ?_
    rintro ⟨j, n⟩ hj K next
    dsimp only at hj next ⊢
    by_cases h : j < qs.length
    · by_cases h8 : j < 15
      · obtain ⟨a, ha⟩ : ∃ a, qs[j]? = some a := ⟨_, List.getElem?_eq_getElem h⟩
        have hq1 := hqr j a ha
        have hlt : j * 9 + 9 ≤ QS.length := by rw [hql]; omega
        have cE1 := cE a n (by omega)
        have hn2 := hEn a n
        have cA1 := cA a (FE a n).n (by omega)
        have hn3 := hAn a (FE a n).n
        obtain ⟨h1e, h1m⟩ := hE1 a n
        have h1a := hA1 a (FE a n).n
        rw [h1e, h1m] at cE1
        rw [h1a] at cA1
        have nx := fun S' => next S' (j + 1, (FA a (FE a n).n).1) ⟨by omega, by omega, by omega⟩ (by dsimp only; omega)
        dsimp only at nx
        have cRN1 := fun w h => cRN a w h
        have cRA1 := fun w h => cRA a w h
        have cD11 := fun w b hB => cD1 a w b hB
        have cU11 := fun w => cU1 a w
        clear cE cA cRN cRA cD1 cU1 next ha hqr cN cf cw cD2 cU2 hrd hE1 hA1 hEn hAn hn2 hn3 h1e h1m h1a
        generalize (FA a (FE a n).n).1 = n3 at *
        generalize (FE a n).n = n2 at *
        obtain ⟨⟨ox, oy, oz⟩, ⟨dx, dy, dz⟩, mask, skip, near⟩ := a
        simp only [AskS.c, askC, P3.c] at *
        generalize nearS D ⟨ox, oy, oz⟩ ⟨dx, dy, dz⟩ mask skip dn = X at *
        generalize anyS D ⟨ox, oy, oz⟩ ⟨dx, dy, dz⟩ mask skip near dn = Y at *
        obtain ⟨x, m⟩ := X
        dsimp only at cE1 cRN1
        have hYY : (Y == Y) = true := by cases Y <;> rfl
        have hYn : (!(Y == Y)) = false := by cases Y <;> rfl
        have hms1 := hms m
        have hmo1 := hmo m
        have hmr1 := hmr m
        clear hms hmo hmr
        generalize m.c = MC at *
        generalize zM.c = ZM at *
        repeat (first | (show Walk1 _ _ _ (_ :: _) _ _; first | (show Walk1 _ _ _ (⟨_, _, _, _, _, some _⟩ :: _) _ _; refine zy1 ?_) | (show HW1 (.move _); refine wz1 ?_) | (show HW1 (.assign _); refine wz2 ?_) | (show HW1 (.binOp .add _ _ _ _); refine wz10 ?_) | (show HW1 (.binOp .lss _ _ _ _); refine wz5 ?_) | (show HW1 (.binOp .neq _ _ _ _); refine wz87 ?_) | (show HW1 (.pick _ _ _); first | refine wz8 ?_ | refine wz7 ?_) | (show HW1 (.indexAddr _ _ _); refine wz26 ?_) | (show HW1 (.load _ _); first | refine wz3 ?_ | refine wz31 ?_ | refine wz51 ?_) | (show HW1 (.store _ _ _); first | refine wz23 ?_ | refine wz14 ?_) | (show HW1 (.alloc _); refine wz6 ?_) | (show HW1 (.fieldAddr _ _ _); refine wz4 ?_) | (show HW1 (.extract _ _); first | refine wz16 ?_ | refine wz15 ?_) | (show HW1 (.call ⟨.builtin .len, _, _⟩); refine wz27 ?_) | (show HW1 (.call ⟨.value (.func 15), _, _⟩); (first | refine walk1_callObj 900 (cE1) rfl rfl rfl rfl evq rfl rfl (fun _ => rfl) ?_ | refine walk1_callObj0 900 (cE1) rfl rfl rfl evq rfl rfl (fun _ => rfl) ?_)) | (show HW1 (.call ⟨.value (.func 15), _, _⟩); ((first | refine walk1_callP (.c deadWk) rfl rfl rfl rfl evq rfl rfl rfl ?_ | refine walk1_callP0 (.c deadWk) rfl rfl rfl evq rfl rfl rfl ?_); refine ⟨_, _, _, callP_0 (cells0 := deadWk) rfl (fun _ => rfl) (fun e w h => cD11 w _ h), (fun _ => rfl), ?_⟩)) | (show HW1 (.call ⟨.value (.func 18), _, _⟩); (refine cwalk1M 18 ?_; refine ⟨_, _, callM_1 (rdn_old hdr (by omega) rfl) (fun e w h1 => cRN1 w h1), ?_⟩)) | (show HW1 (.call ⟨.value (.func 17), _, _⟩); (first | refine walk1_callObj 900 (cA1) rfl rfl rfl rfl evq rfl rfl (fun _ => rfl) ?_ | refine walk1_callObj0 900 (cA1) rfl rfl rfl evq rfl rfl (fun _ => rfl) ?_)) | (show HW1 (.call ⟨.value (.func 17), _, _⟩); ((first | refine cwalk11 17 ?_ | refine cwalk10 17 ?_); refine ⟨_, fun e w => cU11 w, ?_⟩))) | (show WalkTo _ _ _ _ (_ :: _) _ _ _; first | (show WalkTo _ _ _ _ (⟨_, _, _, _, _, some _⟩ :: _) _ _ _; refine zy2 ?_) | (show HW2 (.move _); refine wz20 ?_) | (show HW2 (.binOp .neq _ _ _ _); first | refine wz135 ?_ | refine walk_t (op_neT rfl rfl rfl rfl rfl rfl) ?_ | refine walk_t (op_neR (by assumption) rfl rfl rfl rfl rfl (fun _ => rfl) (fun _ => rfl) (by kernel_rfl)) ?_) | (show HW2 (.pick _ _ _); refine wz91 ?_) | (show HW2 (.load _ _); first | refine wz24 ?_ | refine wz22 ?_ | refine wz130 ?_) | (show HW2 (.fieldAddr _ _ _); refine wz49 ?_) | (show HW2 (.call ⟨.value (.func 17), _, _⟩); (first | refine walk_callObj 900 (cA1) rfl rfl rfl rfl evq rfl rfl (fun _ => rfl) ?_ | refine walk_callObj0 900 (cA1) rfl rfl rfl evq rfl rfl (fun _ => rfl) ?_)) | (show HW2 (.call ⟨.value (.func 17), _, _⟩); ((first | refine cwalk1 17 ?_ | refine cwalk0 17 ?_); refine ⟨_, fun e w => cU11 w, ?_⟩)) | (show HW2 (.call ⟨.value (.func 19), _, _⟩); (refine cwalkM 19 ?_; refine ⟨_, _, callM_1 (rdn_old hdr (by omega) rfl) (fun e w h1 => cRA1 w h1), ?_⟩))) | refine go1 ?_ | refine end_block_other rfl ?_ | refine end_scope (fun _ h => by cases h) ?_ | (refine walk_endD ?_ ?_; (· kernel_rfl)) | refine tri_yesA rfl ?_ | refine tri_noA rfl ?_ | refine tri_trueA rfl ?_ | refine tri_falseA rfl ?_)
        repeat (first | refine go1 ?_ | refine end_block_other rfl ?_ | refine end_scope (fun _ h => by cases h) ?_ | (refine walk_endD ?_ ?_; (· kernel_rfl)) | refine tri_yesA rfl ?_ | refine tri_noA rfl ?_ | refine tri_trueA rfl ?_ | refine tri_falseA rfl ?_)
        exact nx _ (by exact ent_kp)
      · obtain rfl : j = 15 := by omega
        clear cE cA cRN cRA cD1 cU1 next hqr cN cf hrd hms hmo hmr hE1 hA1 hEn hAn
        repeat (first | (show Walk1 _ _ _ (_ :: _) _ _; first | (show Walk1 _ _ _ (⟨_, _, _, _, _, some _⟩ :: _) _ _; refine zy1 ?_) | (show HW1 (.move _); refine wz1 ?_) | (show HW1 (.assign _); refine wz2 ?_) | (show HW1 (.binOp .lss _ _ _ _); refine wz5 ?_) | (show HW1 (.binOp .eql _ _ _ _); refine wz30 ?_) | (show HW1 (.pick _ _ _); refine wz8 ?_) | (show HW1 (.call ⟨.builtin .len, _, _⟩); refine wz27 ?_) | (show HW1 (.call ⟨.value (.func 20), _, _⟩); ((first | refine walk1_callP (.c deadWk) rfl rfl rfl rfl evq rfl rfl rfl ?_ | refine walk1_callP0 (.c deadWk) rfl rfl rfl evq rfl rfl rfl ?_); refine ⟨_, _, _, callP_0 (cells0 := deadWk) rfl (fun _ => rfl) (fun e w h => cD2 w _ h), (fun _ => rfl), ?_⟩)) | (show HW1 (.call ⟨.value (.func 20), _, _⟩); ((first | refine cwalk11 20 ?_ | refine cwalk10 20 ?_); refine ⟨_, fun e w => cU2 w, ?_⟩)) | (show HW1 (.call ⟨.value (.func 10), _, _⟩); ((first | refine cwalk11 10 ?_ | refine cwalk10 10 ?_); refine ⟨_, fun e w => cw w, ?_⟩))) | refine go1 ?_ | refine end_block_other rfl ?_ | refine end_scope (fun _ h => by cases h) ?_ | (refine walk_endD ?_ ?_; (· kernel_rfl)) | refine tri_yesA rfl ?_ | refine tri_noA rfl ?_ | refine tri_trueA rfl ?_ | refine tri_falseA rfl ?_)
        refine end_ret (.c (.bool true)) (res_tmp rfl rfl) ?_
        exact fin_below fun _ => rfl
    · obtain rfl : j = qs.length := by omega
      clear cE cA cRN cRA cD1 cU1 next hqr cN cf hrd hms hmo hmr hE1 hA1 hEn hAn
      repeat (first | (show Walk1 _ _ _ (_ :: _) _ _; first | (show Walk1 _ _ _ (⟨_, _, _, _, _, some _⟩ :: _) _ _; first | refine zy1 ?_ | refine zn1 ?_) | (show HW1 (.move _); refine wz1 ?_) | (show HW1 (.assign _); refine wz2 ?_) | (show HW1 (.binOp .lss _ _ _ _); refine wz5 ?_) | (show HW1 (.binOp .eql _ _ _ _); refine wz30 ?_) | (show HW1 (.pick _ _ _); first | refine wz8 ?_ | refine wz7 ?_) | (show HW1 (.call ⟨.builtin .len, _, _⟩); refine wz27 ?_) | (show HW1 (.call ⟨.value (.func 20), _, _⟩); ((first | refine walk1_callP (.c deadWk) rfl rfl rfl rfl evq rfl rfl rfl ?_ | refine walk1_callP0 (.c deadWk) rfl rfl rfl evq rfl rfl rfl ?_); refine ⟨_, _, _, callP_0 (cells0 := deadWk) rfl (fun _ => rfl) (fun e w h => cD2 w _ h), (fun _ => rfl), ?_⟩)) | (show HW1 (.call ⟨.value (.func 20), _, _⟩); ((first | refine cwalk11 20 ?_ | refine cwalk10 20 ?_); refine ⟨_, fun e w => cU2 w, ?_⟩)) | (show HW1 (.call ⟨.value (.func 10), _, _⟩); ((first | refine cwalk11 10 ?_ | refine cwalk10 10 ?_); refine ⟨_, fun e w => cw w, ?_⟩))) | refine go1 ?_ | refine end_block_other rfl ?_ | refine end_scope (fun _ h => by cases h) ?_ | (refine walk_endD ?_ ?_; (· kernel_rfl)) | refine tri_yesA rfl ?_ | refine tri_noA rfl ?_ | refine tri_trueA rfl ?_ | refine tri_falseA rfl ?_)
      refine end_ret (.c (.bool true)) (res_tmp rfl rfl) ?_
      exact fin_below fun _ => rfl
end Go.Proofs.Ytcookaiakfbdiaa
