/- The example of chapter 22: walked. No condition. The law SweepWalks: walked. No condition. -/
import Derived.Test.YtcookaiakfbdiaaMgWkH
import Derived.Test.YtcookaiakfbdiaaMgSwp11
import Derived.Test.YtcookaiakfbdiaaMgSwp6
namespace Go.Proofs.Ytcookaiakfbdiaa
open Go.RowKit
set_option maxRecDepth 100000
set_option maxHeartbeats 1000000
section
variable {C : Ctx} {ops : Array Oper} {t : List (Nat × SV)} {h : List (Nat × Option Res)} {l : List Oper} {o : Oper} {d : Nat}
theorem walk1_callNOT {σ : Type} {f : FuncId} {xs : Array Operand} {ats : Array TypeId} {vs : List SV} {rb : List Nat} {j : Nat} {O : Obj σ} {s : σ} {u : Value} {K : St → Prop} (k : Nat) (ho : o.op = .call { callee := .value (.func f), args := xs, argTypes := ats }) (hdn : o.dst = some d) (hg : o.guard = none) (hd : dstB o.dst C.nt = true) (hf : freshB ⟨t, h⟩ d = true) (hxs : EvS ⟨t, h⟩ xs.toList vs) (hc' : tabLook calT f = some j)
    (hcon : ∀ (S' : St) e a w, Holds C S' e a w → (∀ q ∈ rb, S'.res q = (St.mk t h).res q) → Calls Try.prog j (vs.map (·.den e)).toArray w (RetNOT O w s u))
    (hK : Walk1 C Try.prog ops l ⟨(d, .tup [.p d 0, .c u]) :: t, (d, none) :: (k, some (.obj d O s)) :: h⟩ K) : Walk1 C Try.prog ops (o :: l) ⟨t, h⟩ K :=
  ⟨_, op_callNOT (C := C) (ops := ops) ho hdn hg hd hxs hc' k hcon, by simp [hf], hK⟩
end
attribute [local irreducible] Calls Walk1 WalkTo Tri EndA
end Go.Proofs.Ytcookaiakfbdiaa
namespace Go.Proofs.Ytcookaiakfbdiaa
open Go.RowKit
set_option maxRecDepth 100000
set_option maxHeartbeats 2000000
attribute [local irreducible] Calls Walk1 WalkTo Tri EndA
theorem sweepWalks_walk (v : Value) (es : List TriS) (hok : ∀ e ∈ es, e.ok) (v2 : Value) (qs : List AskS) (w : World) (hv : FS w 19 v es.length (trisC es)) (hv2 : FS w 9 v2 qs.length (asksC qs)) :
    Calls Try.prog 7 #[v, v2] w fun e w' => e = .returned (.bool true) ∧ Below w.heap.size w w' := by
  obtain ⟨D, u, hD, hDok, hfx, hcv⟩ := few21_cut hv hok
  have hrd := hv.rd
  have hsl := hv.2
  have cf := fun w h => few21_any es.length (trisC es) v w ⟨h, hsl⟩
  rw [hcv] at cf
  have hdr := hfx.rd
  have hsx := hfx.2
  have cw := fun w => works23_any w
  have l1 := fill_length D 60 hD
  have k1 := fill_ok D hDok 60
  have cW := fun w h => swNew_any D hDok 60 (by omega) hD w u h
  by_cases hfar : ∃ t ∈ D, farT t = true
  · have cN := fun w h => walkNewFar_any D hDok (by omega) hfar u w h
    unfold swK at *
    rw [l1] at cW
    clear hfar hcv hsl hfx hok hDok hv k1 l1
    generalize trisC (fillT D 60) = XF at *
    generalize trisC D = XS at *
    generalize trisC es = ES at *
    generalize es.length = EL at *
    generalize D.length = n at *
    refine calls_tri Try.func7 rfl Try.ntmps7 rfl ?_
    repeat (first | (show Walk1 _ _ _ (_ :: _) _ _; first | (show Walk1 _ _ _ (⟨_, _, _, _, _, some _⟩ :: _) _ _; first | refine zy1 ?_ | refine zn1 ?_) | (show HW1 (.move _); refine wz1 ?_) | (show HW1 (.assign _); refine wz2 ?_) | (show HW1 (.binOp .eql _ _ _ _); first | refine wz30 ?_ | refine wz76 ?_) | (show HW1 (.binOp .neq _ _ _ _); refine wz61 ?_) | (show HW1 (.pick _ _ _); first | refine wz8 ?_ | refine wz7 ?_) | (show HW1 (.extract _ _); first | refine wz16 ?_ | refine wz15 ?_ | refine wz84 ?_) | (show HW1 (.call ⟨.value (.func 8), _, _⟩); (refine cwalk1M 8 ?_; refine ⟨_, _, callM_1 (rdn_old hrd (by omega) rfl) (fun e w h1 => cf w h1), ?_⟩)) | (show HW1 (.call ⟨.value (.func 21), _, _⟩); (refine walk1_callNT 900 (SA.l [SV.c (.int .i64 ((0 : Nat) : Int)), SV.c (.bool true), SV.v 900]) rfl rfl rfl rfl (by kernel_rfl) (by kernel_rfl) (by kernel_rfl) (by kernel_rfl) evq rfl ?_; refine ⟨_, _, _, _, _, _, callNT_1 (rdn_old hdr (by omega) rfl) (fun e w h1 => cW w h1), (fun _ => rfl), isOwn_own, ?_⟩)) | (show HW1 (.call ⟨.value (.func 14), _, _⟩); (refine cwalk1M 14 ?_; refine ⟨_, _, callM_1 (rdn_old hdr (by omega) rfl) (fun e w h1 => cN w h1), ?_⟩)) | (show HW1 (.call ⟨.value (.func 22), _, _⟩); ((first | refine cwalk11 22 ?_ | refine cwalk10 22 ?_); refine ⟨_, fun e w => cw w, ?_⟩))) | refine go1 ?_ | refine end_block_other rfl ?_ | refine end_scope (fun _ h => by cases h) ?_ | (refine walk_endD ?_ ?_; (· kernel_rfl)) | refine tri_yesA rfl ?_ | refine tri_noA rfl ?_ | refine tri_trueA rfl ?_ | refine tri_falseA rfl ?_)
    refine end_ret (.c (.bool true)) (res_tmp rfl rfl) ?_
    exact fin_below fun _ => rfl
  · have hnf : ∀ t ∈ D, farT t = false := fun t ht => by
      cases hb : farT t with
      | false => rfl
      | true => exact absurd ⟨t, ht, hb⟩ hfar
    obtain ⟨T, hW⟩ := walk_of D hDok (by omega) hnf
    have hcost : costT T ≤ 2000000 := by have := hW.cost; have := hW.ts.nl; omega
    have cN := fun w h => walkNew_all D hDok (by omega) hnf u w h
    have hrd2 := hv2.rd
    have hql := asks_len qs
    have hqr := asks_row qs
    have cE := fun (a : AskS) (n : Nat) (hn : n + costT T ≤ 100000000) => wkNear_obj _ _ D n T hW.ts hn a.o a.d a.mask a.skip
    have cA := fun (a : AskS) (n : Nat) (hn : n + costT T ≤ 100000000) => wkAny_obj _ _ D n T hW.ts hn a.o a.d a.mask a.skip a.near
    have hE1 : ∀ (a : AskS) (n : Nat), (nearW T D (treeL D).2 a.o a.d a.mask a.skip n).i = (nearS D a.o a.d a.mask a.skip D.length).1 ∧ (nearW T D (treeL D).2 a.o a.d a.mask a.skip n).m = (nearS D a.o a.d a.mask a.skip D.length).2 := fun a n => hW.near ..
    have hA1 : ∀ (a : AskS) (n : Nat), (anyW T D (treeL D).2 a.o a.d a.mask a.skip a.near n).2 = anyS D a.o a.d a.mask a.skip a.near D.length := fun a n => hW.any ..
    have hEn : ∀ (a : AskS) (n : Nat), (nearW T D (treeL D).2 a.o a.d a.mask a.skip n).n ≤ n + 2000000 := fun a n => Nat.le_trans (hW.less ..).2 (by omega)
    have hAn : ∀ (a : AskS) (n : Nat), (anyW T D (treeL D).2 a.o a.d a.mask a.skip a.near n).1 ≤ n + 2000000 := fun a n => Nat.le_trans (hW.lessA ..).2 (by omega)
    have cSE := fun (a : AskS) (n : Nat) (hn : n + 60 < 1000000000) w b v hB hK hne => nearest_any n (fillT D 60) k1 a.o a.d a.mask a.skip (by omega) w b v hB hK hne
    have cSA := fun (a : AskS) (n : Nat) (hn : n + 60 < 1000000000) w b v hB hK hne => any_any n (fillT D 60) k1 a.o a.d a.mask a.skip a.near (by omega) w b v hB hK hne
    have hNE : ∀ a : AskS, nearS (fillT D 60) a.o a.d a.mask a.skip 60 = nearS D a.o a.d a.mask a.skip D.length := fun a => near_fill D 60 a.o a.d a.mask a.skip _ hD (Nat.le_refl _)
    have hAE : ∀ a : AskS, anyS (fillT D 60) a.o a.d a.mask a.skip a.near 60 = anyS D a.o a.d a.mask a.skip a.near D.length := fun a => any_fill D 60 a.o a.d a.mask a.skip a.near _ hD (Nat.le_refl _)
    have hms : ∀ m : M4, m.c.size = 4 := fun _ => rfl
    have hmo : ∀ m : M4, m.c.all (·.oneCell') = true := fun m => by simp [M4.c]; exact ⟨rfl, rfl, rfl, rfl⟩
    have hzs := hms zM
    have hzo := hmo zM
    have hmr := fun m => eqMt_refl m
    obtain ⟨FE, hFE⟩ : ∃ FE : AskS → Nat → WSt, ∀ a n, FE a n = nearW T D (treeL D).2 a.o a.d a.mask a.skip n := ⟨_, fun _ _ => rfl⟩
    obtain ⟨FA, hFA⟩ : ∃ FA : AskS → Nat → Nat × Bool, ∀ a n, FA a n = anyW T D (treeL D).2 a.o a.d a.mask a.skip a.near n := ⟨_, fun _ _ => rfl⟩
    simp only [← hFE] at cE hE1 hEn
    simp only [← hFA] at cA hA1 hAn
    unfold swK at *
    rw [l1] at cW cSE cSA
    simp only [hNE, hAE] at cSE cSA
    clear hFE hFA hok hDok hv hcv hfx hsx hsl hv2 hW hnf hfar hNE hAE k1 l1
    generalize (treeL D).1 = NN at *
    generalize (treeL D).2 = KK at *
    generalize trisC (fillT D 60) = XF at *
    generalize trisC D = XS at *
    generalize trisC es = ES at *
    generalize es.length = EL at *
    generalize hdn : D.length = dn at *
    generalize asksC qs = QS at *
    refine calls_tri Try.func7 rfl Try.ntmps7 rfl ?_
    repeat (first | (show Walk1 _ _ _ (_ :: _) _ _; first | (show HW1 (.move _); refine wz1 ?_) | (show HW1 (.assign _); refine wz2 ?_) | (show HW1 (.extract _ _); refine wz84 ?_) | (show HW1 (.call ⟨.value (.func 8), _, _⟩); (refine cwalk1M 8 ?_; refine ⟨_, _, callM_1 (rdn_old hrd (by omega) rfl) (fun e w h1 => cf w h1), ?_⟩)) | (show HW1 (.call ⟨.value (.func 21), _, _⟩); (refine walk1_callNT 900 (SA.l [SV.c (.int .i64 ((0 : Nat) : Int)), SV.c (.bool true), SV.v 900]) rfl rfl rfl rfl (by kernel_rfl) (by kernel_rfl) (by kernel_rfl) (by kernel_rfl) evq rfl ?_; refine ⟨_, _, _, _, _, _, callNT_1 (rdn_old hdr (by omega) rfl) (fun e w h1 => cW w h1), (fun _ => rfl), isOwn_own, ?_⟩))) | refine go1 ?_ | refine end_block_other rfl ?_ | refine end_scope (fun _ h => by cases h) ?_ | (refine walk_endD ?_ ?_; (· kernel_rfl)) | refine tri_yesA rfl ?_ | refine tri_noA rfl ?_ | refine tri_trueA rfl ?_ | refine tri_falseA rfl ?_)
    refine walk1_callNOT (rb := []) (vs := [.c u]) 910 rfl rfl rfl rfl (by kernel_rfl) evq rfl (fun S' e a w' hS _ => cN w' (rdn_old (S := S') hdr (by omega) rfl S' e a w' (fun _ h => by cases h) hS)) ?_
    repeat (first | (show Walk1 _ _ _ (_ :: _) _ _; first | (show Walk1 _ _ _ (⟨_, _, _, _, _, some _⟩ :: _) _ _; refine zy1 ?_) | (show HW1 (.move _); refine wz1 ?_) | (show HW1 (.assign _); first | refine wz13 ?_ | refine wz2 ?_) | (show HW1 (.binOp .eql _ _ _ _); refine wz76 ?_) | (show HW1 (.binOp .neq _ _ _ _); refine wz61 ?_) | (show HW1 (.pick _ _ _); refine wz7 ?_) | (show HW1 (.extract _ _); refine wz84 ?_)) | refine go1 ?_ | refine end_block_other rfl ?_ | refine end_scope (fun _ h => by cases h) ?_ | (refine walk_endD ?_ ?_; (· kernel_rfl)) | refine tri_yesA rfl ?_ | refine tri_noA rfl ?_ | refine tri_trueA rfl ?_ | refine tri_falseA rfl ?_)
    refine tri_loop (X := Nat × Nat) (fun x => ⟨[(9, SV.c (.int .i64 ((x.1 : Nat) : Int))), (0, .c u), (1, .c v2), (4, .c (.bool false)), (5, .p 19 0), (7, .p 24 0)], [(910, some (.obj 24 wkO ⟨NN, KK, D, x.2⟩)), (19, some (.blk 19 94 (SA.l [SV.c (.int .i64 ((120 * x.1 : Nat) : Int)), SV.c (.bool true), SV.v 900]))), (900, some (.own 900 48 19 60 XF))]⟩)
      (fun x => x.1 ≤ qs.length ∧ x.1 ≤ 8 ∧ x.2 ≤ 4000000 * x.1) (fun x => 8 - x.1) (0, 0) ⟨by omega, by omega, by omega⟩ (by exact ent_kp) ?_
    rintro ⟨j, n⟩ hj K next
    dsimp only at hj next ⊢
    by_cases h : j < qs.length
    · by_cases h8 : j < 8
      · obtain ⟨a, ha⟩ : ∃ a, qs[j]? = some a := ⟨_, List.getElem?_eq_getElem h⟩
        have hq1 := hqr j a ha
        have hlt : j * 9 + 9 ≤ QS.length := by rw [hql]; omega
        have cE1 := cE a n (by omega)
        have hn2 := hEn a n
        have cA1 := cA a (FE a n).n (by omega)
        have hn3 := hAn a (FE a n).n
        obtain ⟨h1e, h1m⟩ := hE1 a n
        have h1a := hA1 a (FE a n).n
        rw [h1e, h1m] at cE1
        rw [h1a] at cA1
        have nx := fun S' => next S' (j + 1, (FA a (FE a n).n).1) ⟨by omega, by omega, by omega⟩ (by dsimp only; omega)
        dsimp only at nx
        have hnx : 120 * (j + 1) = 120 * j + 60 + 60 := by omega
        rw [hnx] at nx
        have cSE1 := fun w b v hB hK hne => cSE a (120 * j) (by omega) w b v hB hK hne
        have cSA1 := fun w b v hB hK hne => cSA a (120 * j + 60) (by omega) w b v hB hK hne
        clear cE cA cSE cSA next ha hqr cN cf cw cW hrd hE1 hA1 hEn hAn hn2 hn3 h1e h1m h1a hnx
        generalize (FA a (FE a n).n).1 = n3 at *
        generalize (FE a n).n = n2 at *
        generalize 120 * j = s at *
        obtain ⟨⟨ox, oy, oz⟩, ⟨dx, dy, dz⟩, mask, skip, near⟩ := a
        simp only [AskS.c, askC, P3.c] at *
        generalize nearS D ⟨ox, oy, oz⟩ ⟨dx, dy, dz⟩ mask skip dn = X at *
        generalize anyS D ⟨ox, oy, oz⟩ ⟨dx, dy, dz⟩ mask skip near dn = Y at *
        obtain ⟨x, m⟩ := X
        dsimp only at cE1 cSE1
        have hYY : (Y == Y) = true := by cases Y <;> rfl
        have hYn : (!(Y == Y)) = false := by cases Y <;> rfl
        have hms1 := hms m
        have hmo1 := hmo m
        have hmr1 := hmr m
        clear hms hmo hmr
        generalize m.c = MC at *
        generalize zM.c = ZM at *
        repeat (first | (show Walk1 _ _ _ (_ :: _) _ _; first | (show Walk1 _ _ _ (⟨_, _, _, _, _, some _⟩ :: _) _ _; refine zy1 ?_) | (show HW1 (.move _); refine wz1 ?_) | (show HW1 (.assign _); refine wz2 ?_) | (show HW1 (.binOp .add _ _ _ _); refine wz10 ?_) | (show HW1 (.binOp .lss _ _ _ _); refine wz5 ?_) | (show HW1 (.pick _ _ _); refine wz8 ?_) | (show HW1 (.indexAddr _ _ _); refine wz26 ?_) | (show HW1 (.load _ _); first | refine wz3 ?_ | refine wz31 ?_ | refine wz51 ?_) | (show HW1 (.store _ _ _); first | refine wz23 ?_ | refine wz14 ?_) | (show HW1 (.alloc _); refine wz6 ?_) | (show HW1 (.fieldAddr _ _ _); refine wz4 ?_) | (show HW1 (.extract _ _); first | refine wz16 ?_ | refine wz15 ?_) | (show HW1 (.call ⟨.builtin .len, _, _⟩); refine wz27 ?_) | (show HW1 (.call ⟨.value (.func 23), _, _⟩); ((first | refine walk1_callPL 900 901 (SA.l [SV.c (.int .i64 ((s + 60 : Nat) : Int)), SV.c (.bool true), SV.v 901]) rfl rfl rfl rfl evq rfl rfl rfl (by first | exact isOwn_own | exact isOwn_sub) rfl (by kernel_rfl) (by kernel_rfl) ?_ | refine walk1_callPL0 900 901 (SA.l [SV.c (.int .i64 ((s + 60 : Nat) : Int)), SV.c (.bool true), SV.v 901]) rfl rfl rfl evq rfl rfl rfl (by first | exact isOwn_own | exact isOwn_sub) rfl (by kernel_rfl) (by kernel_rfl) ?_); refine ⟨_, _, _, _, _, callPL_0 (cells0 := swC s) rfl rfl (by first | exact isOwn_own | exact isOwn_sub) (by kernel_rfl) (fun _ => rfl) (fun e w v hB hK hne => cSE1 w _ v hB hK hne), (fun _ => rfl), (by first | exact isOwn_own | exact isOwn_sub), ?_⟩)) | (show HW1 (.call ⟨.value (.func 15), _, _⟩); (first | refine walk1_callObj 910 (cE1) rfl rfl rfl rfl evq rfl rfl (fun _ => rfl) ?_ | refine walk1_callObj0 910 (cE1) rfl rfl rfl evq rfl rfl (fun _ => rfl) ?_))) | (show WalkTo _ _ _ _ (_ :: _) _ _ _; first | (show WalkTo _ _ _ _ (⟨_, _, _, _, _, some _⟩ :: _) _ _ _; refine zy2 ?_) | (show HW2 (.move _); refine wz20 ?_) | (show HW2 (.binOp .neq _ _ _ _); first | refine wz135 ?_ | refine walk_t (op_neT rfl rfl rfl rfl rfl rfl) ?_ | refine walk_t (op_neR (by assumption) rfl rfl rfl rfl rfl (fun _ => rfl) (fun _ => rfl) (by kernel_rfl)) ?_) | (show HW2 (.pick _ _ _); refine wz91 ?_) | (show HW2 (.load _ _); first | refine wz24 ?_ | refine wz22 ?_ | refine wz130 ?_) | (show HW2 (.fieldAddr _ _ _); refine wz49 ?_) | (show HW2 (.call ⟨.value (.func 24), _, _⟩); ((first | refine walk_callPL 901 902 (SA.l [SV.c (.int .i64 ((s + 60 + 60 : Nat) : Int)), SV.c (.bool true), SV.v 902]) rfl rfl rfl rfl evq rfl rfl rfl (by first | exact isOwn_own | exact isOwn_sub) rfl (by kernel_rfl) (by kernel_rfl) ?_ | refine walk_callPL0 901 902 (SA.l [SV.c (.int .i64 ((s + 60 + 60 : Nat) : Int)), SV.c (.bool true), SV.v 902]) rfl rfl rfl evq rfl rfl rfl (by first | exact isOwn_own | exact isOwn_sub) rfl (by kernel_rfl) (by kernel_rfl) ?_); refine ⟨_, _, _, _, _, callPL_0 (cells0 := swC (s + 60)) rfl rfl (by first | exact isOwn_own | exact isOwn_sub) (by kernel_rfl) (fun _ => rfl) (fun e w v hB hK hne => cSA1 w _ v hB hK hne), (fun _ => rfl), (by first | exact isOwn_own | exact isOwn_sub), ?_⟩)) | (show HW2 (.call ⟨.value (.func 17), _, _⟩); (first | refine walk_callObj 910 (cA1) rfl rfl rfl rfl evq rfl rfl (fun _ => rfl) ?_ | refine walk_callObj0 910 (cA1) rfl rfl rfl evq rfl rfl (fun _ => rfl) ?_))) | refine go1 ?_ | refine end_block_other rfl ?_ | refine end_scope (fun _ h => by cases h) ?_ | (refine walk_endD ?_ ?_; (· kernel_rfl)) | refine tri_yesA rfl ?_ | refine tri_noA rfl ?_ | refine tri_trueA rfl ?_ | refine tri_falseA rfl ?_)
        refine nx _ ?_
        exact (ent_ren (fun n => cond (Nat.beq n 900) 902 n) (by repeat (first | exact hasTm_nil | refine hasTm_cons rfl (fun _ => rfl) ?_)) (by repeat (first | exact hasRm_nil | refine hasRm_cons rfl (fun _ => rfl) (fun _ _ h => h) rfl ?_)) (by kernel_rfl))
      · obtain rfl : j = 8 := by omega
        clear cE cA cSE cSA next hqr cN cf hrd hms hmo hmr hE1 hA1 hEn hAn
        repeat (first | (show Walk1 _ _ _ (_ :: _) _ _; first | (show Walk1 _ _ _ (⟨_, _, _, _, _, some _⟩ :: _) _ _; refine zy1 ?_) | (show HW1 (.move _); refine wz1 ?_) | (show HW1 (.assign _); refine wz2 ?_) | (show HW1 (.binOp .lss _ _ _ _); refine wz5 ?_) | (show HW1 (.pick _ _ _); refine wz8 ?_) | (show HW1 (.call ⟨.builtin .len, _, _⟩); refine wz27 ?_) | (show HW1 (.call ⟨.value (.func 22), _, _⟩); ((first | refine cwalk11 22 ?_ | refine cwalk10 22 ?_); refine ⟨_, fun e w => cw w, ?_⟩))) | refine go1 ?_ | refine end_block_other rfl ?_ | refine end_scope (fun _ h => by cases h) ?_ | (refine walk_endD ?_ ?_; (· kernel_rfl)) | refine tri_yesA rfl ?_ | refine tri_noA rfl ?_ | refine tri_trueA rfl ?_ | refine tri_falseA rfl ?_)
        refine end_ret (.c (.bool true)) (res_tmp rfl rfl) ?_
        exact fin_below fun _ => rfl
    · obtain rfl : j = qs.length := by omega
      clear cE cA cSE cSA next hqr cN cf hrd hms hmo hmr hE1 hA1 hEn hAn
      repeat (first | (show Walk1 _ _ _ (_ :: _) _ _; first | (show Walk1 _ _ _ (⟨_, _, _, _, _, some _⟩ :: _) _ _; refine zn1 ?_) | (show HW1 (.move _); refine wz1 ?_) | (show HW1 (.assign _); refine wz2 ?_) | (show HW1 (.binOp .lss _ _ _ _); refine wz5 ?_) | (show HW1 (.pick _ _ _); refine wz7 ?_) | (show HW1 (.call ⟨.builtin .len, _, _⟩); refine wz27 ?_) | (show HW1 (.call ⟨.value (.func 22), _, _⟩); ((first | refine cwalk11 22 ?_ | refine cwalk10 22 ?_); refine ⟨_, fun e w => cw w, ?_⟩))) | refine go1 ?_ | refine end_block_other rfl ?_ | refine end_scope (fun _ h => by cases h) ?_ | (refine walk_endD ?_ ?_; (· kernel_rfl)) | refine tri_yesA rfl ?_ | refine tri_noA rfl ?_ | refine tri_trueA rfl ?_ | refine tri_falseA rfl ?_)
      refine end_ret (.c (.bool true)) (res_tmp rfl rfl) ?_
      exact fin_below fun _ => rfl
end Go.Proofs.Ytcookaiakfbdiaa
