/- Chapter 21's example: walked. No condition. The law BvhBuilds: walked (in work). No condition. -/
import Derived.Test.YtcgmapioelfneaaMgWkJ
import Derived.Test.YtcgmapioelfneaaMgBld10
import Derived.Test.YtcgmapioelfneaaMgBvs3
import Derived.Test.YtcgmapioelfneaaMgBvs5
import Derived.Test.YtcgmapioelfneaaMgSwp9
namespace Go.Proofs.Ytcgmapioelfneaa
open Go.RowKit
set_option maxRecDepth 100000
set_option maxHeartbeats 2000000
theorem apart_ok : ∀ t ∈ apartL, t.ok := fun t ht => by
  obtain ⟨i, _, rfl⟩ := List.mem_map.1 ht
  exact ⟨rfl, fun u hu => by obtain ⟨_, rfl⟩ := List.mem_replicate.1 hu; rfl⟩
theorem apart_far : ∀ t ∈ apartL, farT t = false := by decide +kernel
theorem apart_5 : 3 ≤ (treeL apartL).1.length := Nat.le_of_ble_eq_true (by kernel_rfl)
theorem apart_4 : (treeL (apartL.take 4)).1.length = 1 := by kernel_rfl
theorem apart_l : (leavesL (treeL (apartL.take 4)).1 (treeL (apartL.take 4)).1.length).length = 1 := by kernel_rfl
theorem apart_len : apartL.length = 5 := by kernel_rfl
theorem apart_tk : (trisC apartL).take (4 * 19) = trisC (apartL.take 4) := by kernel_rfl
attribute [local irreducible] Calls Walk1 WalkTo Tri EndA
theorem works21_any (w : World) : Calls Try.prog 9 #[] w fun e w' => e = .returned (.bool true) ∧ Below w.heap.size w w' := by
  have ok4 : ∀ t ∈ apartL.take 4, t.ok := fun t h => apart_ok t (List.mem_of_mem_take h)
  have far4 : ∀ t ∈ apartL.take 4, farT t = false := fun t h => apart_far t (List.mem_of_mem_take h)
  have len4 : (apartL.take 4).length = 4 := by rw [List.length_take, apart_len]; rfl
  have cB1 := fun w v h => build_any apartL apart_ok (by rw [apart_len]; omega) (by rw [apart_len]; omega) apart_far v w h
  have cB2 := fun w v h => build_any (apartL.take 4) ok4 (by rw [len4]; omega) (by rw [len4]; omega) far4 v w h
  obtain ⟨M1, D1, hS1⟩ := sound_of apartL (fun t ht => near_of (apart_far t ht)) (by rw [apart_len]; omega)
  obtain ⟨M2, D2, hS2⟩ := sound_of (apartL.take 4) (fun t ht => near_of (far4 t ht)) (by rw [len4]; omega)
  have hN1 := apart_5
  have hN2 := apart_4
  have cS := fun v1 v2 vl w h1 h2 h3 => soundB_any apart_ok hS1 (by rw [apart_len]; omega) (by rw [apart_len]; omega) v1 v2 vl w h1 h2 h3
  have cL := fun v1 v2 w h1 => leaves_any hS2 (by rw [hN2]; omega) v1 v2 w h1
  rw [apart_l] at cL
  have cA := apart_any
  rw [apart_len] at cB1 cS
  rw [len4, ← apart_tk] at cB2
  rw [hN2] at cB2 cL
  generalize (treeL apartL).1.length = n1 at *
  generalize nodesC (treeL apartL).1 = NC1 at *
  generalize (treeL apartL).2.length = k1 at *
  generalize ordC (treeL apartL).2 = KC1 at *
  generalize nodesC (treeL (apartL.take 4)).1 = NC2 at *
  generalize (treeL (apartL.take 4)).2.length = k2 at *
  generalize ordC (treeL (apartL.take 4)).2 = KC2 at *
  generalize leavesL (treeL (apartL.take 4)).1 1 = LL at *
  generalize trisC apartL = TC at *
  clear hS1 hS2 ok4 far4 len4 hN2
  refine calls_tri Try.func9 rfl Try.ntmps9 rfl ?_
  repeat (first | (show Walk1 _ _ _ (_ :: _) _ _; first | (show HW1 (.assign _); refine wz2 ?_) | (show HW1 (.call ⟨.value (.func 19), _, _⟩); (refine walk1_callO rfl rfl rfl rfl (by kernel_rfl) evq rfl ?_; refine ⟨_, _, _, _, _, callO_0  (fun e w  => cA w), ?_⟩))) | refine go1 ?_ | refine end_block_other rfl ?_ | refine end_scope (fun _ h => by cases h) ?_ | (refine walk_endD ?_ ?_; (· kernel_rfl)) | refine tri_yesA rfl ?_ | refine tri_noA rfl ?_ | refine tri_trueA rfl ?_ | refine tri_falseA rfl ?_)
  refine walk1_callB (rb := [6]) (vs := [.v 6]) 901 902 rfl rfl rfl rfl evq rfl rfl (by kernel_rfl) (fun S' e a w' hS hq => cB1 w' _ ((rdn_own (n := 6) rfl) S' e a w' hq hS)) ?_
  repeat (first | (show Walk1 _ _ _ (_ :: _) _ _; first | (show HW1 (.move _); refine wz1 ?_) | (show HW1 (.alloc _); refine wz6 ?_) | (show HW1 (.extract _ _); refine wz84 ?_)) | refine go1 ?_ | refine end_block_other rfl ?_ | refine end_scope (fun _ h => by cases h) ?_ | (refine walk_endD ?_ ?_; (· kernel_rfl)) | refine tri_yesA rfl ?_ | refine tri_noA rfl ?_ | refine tri_trueA rfl ?_ | refine tri_falseA rfl ?_)
  refine walk1_b (op_storeB (q1 := 901) (q2 := 902) rfl rfl rfl rfl rfl (fun _ => rfl) rfl rfl rfl rfl (fun _ => rfl)) ?_
  repeat (first | (show Walk1 _ _ _ (_ :: _) _ _; first | (show HW1 (.assign _); refine wz2 ?_) | (show HW1 (.call ⟨.value (.func 19), _, _⟩); (refine walk1_callO rfl rfl rfl rfl (by kernel_rfl) evq rfl ?_; refine ⟨_, _, _, _, _, callO_0  (fun e w  => cA w), ?_⟩))) | refine go1 ?_ | refine end_block_other rfl ?_ | refine end_scope (fun _ h => by cases h) ?_ | (refine walk_endD ?_ ?_; (· kernel_rfl)) | refine tri_yesA rfl ?_ | refine tri_noA rfl ?_ | refine tri_trueA rfl ?_ | refine tri_falseA rfl ?_)
  refine walk1_t (op_cutV0 (hi := 4) rfl rfl rfl rfl rfl rfl rfl (evO_some ⟨_, rfl⟩) (by omega)) ?_
  refine walk1_callB (rb := [11]) (vs := [.sub 11 0 4]) 903 904 rfl rfl rfl rfl evq rfl rfl (by kernel_rfl) (fun S' e a w' hS hq => cB2 w' _ ((rdn_subV (n := 11) rfl (by omega)) S' e a w' hq hS)) ?_
  repeat (first | (show Walk1 _ _ _ (_ :: _) _ _; first | (show HW1 (.move _); refine wz1 ?_) | (show HW1 (.alloc _); refine wz6 ?_) | (show HW1 (.extract _ _); refine wz84 ?_)) | refine go1 ?_ | refine end_block_other rfl ?_ | refine end_scope (fun _ h => by cases h) ?_ | (refine walk_endD ?_ ?_; (· kernel_rfl)) | refine tri_yesA rfl ?_ | refine tri_noA rfl ?_ | refine tri_trueA rfl ?_ | refine tri_falseA rfl ?_)
  refine walk1_b (op_storeB (q1 := 903) (q2 := 904) rfl rfl rfl rfl rfl (fun _ => rfl) rfl rfl rfl rfl (fun _ => rfl)) ?_
  iterate 3 (try (first | (show Walk1 _ _ _ (_ :: _) _ _; (show HW1 (.assign _); refine wz2 ?_)) | refine go1 ?_ | refine end_block_other rfl ?_ | refine end_scope (fun _ h => by cases h) ?_ | (refine walk_endD ?_ ?_; (· kernel_rfl)) | refine tri_yesA rfl ?_ | refine tri_noA rfl ?_ | refine tri_trueA rfl ?_ | refine tri_falseA rfl ?_))
  refine tri_close rfl fun e w1 hb hr => ?_
  have r1 := fs_ownN (hr 901 _ rfl)
  have r2 := fs_ownN (hr 902 _ rfl)
  have r3 := fs_ownN (hr 903 _ rfl)
  have r4 : FS w1 2 (blkV (e 1).b) 1 [(e 901).v, (e 902).v] := fs_blkN (hr 1 _ rfl) rfl
  have r5 : FS w1 2 (blkV (e 3).b) 1 [(e 903).v, (e 904).v] := fs_blkN (hr 3 _ rfl) rfl
  refine tri_keep [(1, .c (ptrV (blkV (e 1).b) 0)), (2, .c (.int .i64 0)), (3, .c (ptrV (blkV (e 3).b) 0)), (4, .c (.int .i64 0))] [] (by repeat (first | exact hasT_nil | refine hasT_cons rfl ?_ | refine hasT_eq rfl (svi (by omega)) ?_)) (by exact hasR_nil) ?_
  clear hr
  generalize (e 901).v = v1 at *
  generalize (e 902).v = v2 at *
  generalize (e 903).v = v3 at *
  generalize (e 904).v = v4 at *
  generalize (e 1).b = b1 at *
  generalize (e 3).b = b3 at *
  obtain ⟨A1, hA1⟩ : ∃ A, A = [v1, v2] := ⟨_, rfl⟩
  obtain ⟨A2, hA2⟩ : ∃ A, A = [v3, v4] := ⟨_, rfl⟩
  rw [← hA1] at r4
  rw [← hA2] at r5
  have p0 : A1[0]? = some v1 := by rw [hA1]; rfl
  have p1 : A2[0]? = some v3 := by rw [hA2]; rfl
  have p2 : (A1.drop 0).take 2 = [v1, v2] := by rw [hA1]; rfl
  have p3 : (A2.drop 0).take 2 = [v3, v4] := by rw [hA2]; rfl
  have p4 : A1.length = 2 := by rw [hA1]; rfl
  have p5 : A2.length = 2 := by rw [hA2]; rfl
  clear hA1 hA2
  have hbw := hb
  clear hb
  repeat (first | (show WalkTo _ _ _ _ (_ :: _) _ _ _; first | (show WalkTo _ _ _ _ (⟨_, _, _, _, _, some _⟩ :: _) _ _ _; refine zy2 ?_) | (show HW2 (.move _); refine wz20 ?_) | (show HW2 (.assign _); refine wz17 ?_) | (show HW2 (.binOp .geq _ _ _ _); refine walk_t (op_geN rfl rfl rfl evn evn) ?_) | (show HW2 (.binOp .eql _ _ _ _); refine walk_t (op_eqN rfl rfl rfl evn evn) ?_) | (show HW2 (.pick _ _ _); refine wz90 ?_) | (show HW2 (.load _ _); first | refine walk_t (op_loadF rfl rfl rfl rfl rfl rfl rfl rva (by omega) (by assumption)) ?_ | refine wz58 ?_) | (show HW2 (.fieldAddr _ _ _); refine walk_t (op_fldF rfl rfl rfl rfl rva (by omega) rfl rfl off_zero) ?_) | (show HW2 (.call ⟨.builtin .len, _, _⟩); first | refine wz133 ?_ | refine wz134 ?_) | (show HW2 (.call ⟨.value (.func 19), _, _⟩); (refine walk_callO rfl rfl rfl rfl (by kernel_rfl) evq rfl ?_; refine ⟨_, _, _, _, _, callO_0  (fun e w  => cA w), ?_⟩)) | (show HW2 (.call ⟨.value (.func 15), _, _⟩); (refine cwalkM 15 ?_; refine ⟨[26], _, (fun S2 e a w hS hq => cS v1 v2 _ w (r1.anew (by omega) (hS.frame.below rfl)) (r2.anew (by omega) (hS.frame.below rfl)) (fs_ownN (hS.res 26 (.own 26 37 19 5 TC) ((hq 26 (by simp)).trans rfl)))), ?_⟩)) | (show HW2 (.call ⟨.value (.func 14), _, _⟩); (refine walk_callO rfl rfl rfl rfl (by kernel_rfl) evq rfl ?_; refine ⟨_, _, _, _, _, callO_1 (rdn_old r3.rd (by omega) rfl) (fun e w h1 => cL _ _ w ⟨h1, r3.2⟩), ?_⟩))) | refine go1 ?_ | refine end_block_other rfl ?_ | refine end_scope (fun _ h => by cases h) ?_ | (refine walk_endD ?_ ?_; (· kernel_rfl)) | refine tri_yesA rfl ?_ | refine tri_noA rfl ?_ | refine tri_trueA rfl ?_ | refine tri_falseA rfl ?_)
  trace_state
  refine end_ret (.c (.bool true)) (res_tmp rfl rfl) ?_
  exact fin_anew hbw fun _ => rfl
end Go.Proofs.Ytcgmapioelfneaa
namespace Go.Proofs.Ytcgmapioelfneaa
open Go.RowKit
set_option maxRecDepth 100000
set_option maxHeartbeats 4000000
theorem op_callTellV {C : Ctx} {ops : Array Oper} {S : St} {o : Oper} {t0 : Nat} {x : Operand} {ats : Array TypeId} {cv : Value} {N : Nat} {g : Nat → Value} {p : Nat} {v : Value} {V : SV} (hv : g p = v) (H : TellOK C.w0 C.m cv N g) (ho : o.op = .call { callee := .value (.tmp t0), args := #[x], argTypes := ats }) (hcal : S.ev (.tmp t0) = some V) (hV : ∀ e, V.den e = cv) (hg : o.guard = none) (hd : dstB o.dst C.nt = true) (hx : S.ev x = some (.c (.int .i64 ((p : Nat) : Int)))) (hp : p < N) :
    OpG C Try.prog ops o S ⟨[t0] ++ opT x, [], dw o.dst (.c v), [], []⟩ := by
  subst hv
  refine opG_mk hg fun S' h1 h2 h3 e a w hS => ?_
  obtain ⟨j, caps, hK, h⟩ := H.ex
  have hfn : a.eval (.tmp t0) = cv := (hS.ev ((ev_like h1 fun i hi => by simp [opT] at hi; subst hi; simp).trans hcal)).trans (hV e)
  have e1 : a.eval x = .int .i64 ((p : Nat) : Int) := hS.ev ((ev_like h1 fun i hi => List.mem_append_right _ hi).trans hx)
  unfold Oper.wp
  rw [clo_hop hK ho hfn, show (#[x].map a.eval : Array Value) = #[.int .i64 ((p : Nat) : Int)] by simp [e1]]
  refine Calls.mono (h w hS.frame.belowX p hp) ?_
  rintro r w' ⟨rfl, hb⟩
  exact ⟨e, (hS.world hb).put hd (.c (g p))⟩
attribute [local irreducible] Calls Walk1 WalkTo Tri EndA
theorem bvhBuilds_walk (v : Value) (es : List TriS) (hok : ∀ e ∈ es, e.ok) (w : World) (hv : FS w 19 v es.length (trisC es)) :
    Calls Try.prog 3 #[v] w fun e w' => e = .returned (.bool true) ∧ Below w.heap.size w w' := by
  obtain ⟨D, u, hD, hDok, hfx, hcv⟩ := few21_cut hv hok
  have hrd := hv.rd
  have hsl := hv.2
  have cf := fun w h => few21_any es.length (trisC es) v w ⟨h, hsl⟩
  rw [hcv] at cf
  have cw := fun w => works21_any w
  obtain ⟨av, cv, rfl⟩ : ∃ a c, v = .slice a es.length c := by obtain ⟨_, a, c, h, _⟩ := hrd; exact ⟨a, c, h⟩
  obtain ⟨au, cu, rfl⟩ : ∃ a c, u = .slice a D.length c := by obtain ⟨_, a, c, h, _⟩ := hfx.rd; exact ⟨a, c, h⟩
  by_cases hfar : ∃ t ∈ D, farT t = true
  · have cN := fun w h => buildFar_any D hDok (by omega) hfar (.slice au D.length cu) w h
    refine calls_tri Try.func3 rfl Try.ntmps3 rfl ?_
    repeat (first | (show Walk1 _ _ _ (_ :: _) _ _; first | (show HW1 (.move _); first | refine wz40 ?_ | refine wz1 ?_) | (show HW1 (.assign _); refine wz2 ?_) | (show HW1 (.load _ _); refine wz3 ?_) | (show HW1 (.store _ _ _); first | refine wz50 ?_ | refine wz14 ?_) | (show HW1 (.alloc _); refine wz6 ?_) | (show HW1 (.box _ _); refine wz11 ?_) | (show HW1 (.extract _ _); first | refine wz16 ?_ | refine wz15 ?_) | (show HW1 (.call ⟨.builtin .len, _, _⟩); refine wz39 ?_) | (show HW1 (.call ⟨.value (.func 6), _, _⟩); (refine cwalk1M 6 ?_; refine ⟨_, _, callM_1 (rdn_old hrd (by omega) rfl) (fun e w h1 => cf w h1), ?_⟩)) | (show HW1 (.call ⟨.value (.func 7), _, _⟩); (refine cwalk1M 7 ?_; refine ⟨_, _, callM_1 (rdn_old hfx.rd (by omega) rfl) (fun e w h1 => cN w h1), ?_⟩))) | refine go1 ?_ | refine end_block_other rfl ?_ | refine end_scope (fun _ h => by cases h) ?_ | (refine walk_endD ?_ ?_; (· kernel_rfl)) | refine tri_yesA rfl ?_ | refine tri_noA rfl ?_ | refine tri_trueA rfl ?_ | refine tri_falseA rfl ?_)
    have hlen := tris_len D hDok
    have hrow := fun j t (h : D[j]? = some t) => tri_row hDok (j := j) h
    have hoff := fun (t : TriS) (h : t ∈ D) w => off_any t (hDok t h) w
    generalize trisC D = TC at *
    refine tri_loop (X := Nat) (fun j => ⟨[(20, SV.c (.int .i64 ((j : Nat) : Int))), (19, SV.c (.int .i64 ((D.length : Nat) : Int))), (18, .c (.slice au D.length cu)), (4, .c (.int .i64 8)), (3, .p 3 0)], [(3, some (.blk 3 27 (.c #[.slice none 0 0, .slice none 0 0])))]⟩)
      (fun j => j ≤ D.length ∧ ∀ i t, i < j → D[i]? = some t → farT t = false) (fun j => D.length - j) 0 ⟨by omega, fun i t h => by omega⟩ (by exact ent_kp) ?_
    rintro j ⟨hj, hp⟩ Q next
    by_cases h : j < D.length
    · obtain ⟨t, ht⟩ : ∃ t, D[j]? = some t := ⟨_, List.getElem?_eq_getElem h⟩
      have hr := hrow j t ht
      have co := fun w => hoff t (List.mem_of_getElem? ht) w
      have hts : (triC t).toArray.size = 19 := by rw [List.size_toArray]; exact triC_length t (hDok t (List.mem_of_getElem? ht))
      have hto : (triC t).toArray.all (·.oneCell') = true := by
        rw [List.all_toArray, List.all_eq_true]
        exact fun z hz => tris_oneC [t] (fun t' h' => by obtain rfl := List.mem_singleton.1 h'; exact hDok _ (List.mem_of_getElem? ht)) z (by simpa [trisC] using hz)
      have hrl : 0 + j * 19 + 19 ≤ TC.length := by omega
      have nx := fun S' => next S' (j + 1)
      clear next hrow hoff hlen
      cases hb : farT t with
      | true =>
        rw [hb] at co
        clear nx
        generalize triC t = T1 at *
        repeat (first | (show Walk1 _ _ _ (_ :: _) _ _; first | (show Walk1 _ _ _ (⟨_, _, _, _, _, some _⟩ :: _) _ _; refine zy1 ?_) | (show HW1 (.move _); refine wz1 ?_) | (show HW1 (.assign _); refine wz2 ?_) | (show HW1 (.binOp .lss _ _ _ _); refine wz5 ?_) | (show HW1 (.binOp .eql _ _ _ _); refine wz30 ?_) | (show HW1 (.pick _ _ _); refine wz8 ?_) | (show HW1 (.indexAddr _ _ _); refine wz26 ?_) | (show HW1 (.load _ _); first | refine wz3 ?_ | refine wz9 ?_ | refine wz51 ?_) | (show HW1 (.store _ _ _); refine wz23 ?_) | (show HW1 (.alloc _); refine wz6 ?_) | (show HW1 (.fieldAddr _ _ _); refine wz4 ?_) | (show HW1 (.call ⟨.builtin .len, _, _⟩); refine wz39 ?_) | (show HW1 (.call ⟨.value (.func 8), _, _⟩); ((first | refine cwalk11 8 ?_ | refine cwalk10 8 ?_); refine ⟨_, fun e w => co w, ?_⟩)) | (show HW1 (.call ⟨.value (.func 9), _, _⟩); ((first | refine cwalk11 9 ?_ | refine cwalk10 9 ?_); refine ⟨_, fun e w => cw w, ?_⟩))) | refine go1 ?_ | refine end_block_other rfl ?_ | refine end_scope (fun _ h => by cases h) ?_ | (refine walk_endD ?_ ?_; (· kernel_rfl)) | refine tri_yesA rfl ?_ | refine tri_noA rfl ?_ | refine tri_trueA rfl ?_ | refine tri_falseA rfl ?_)
        refine end_ret (.c (.bool true)) (res_tmp rfl rfl) ?_
        exact fin_below fun _ => rfl
      | false =>
        rw [hb] at co
        have hp2 : ∀ i t, i < j + 1 → D[i]? = some t → farT t = false := fun i t' h1 h2 => by
          by_cases h3 : i < j
          · exact hp i t' h3 h2
          · obtain rfl : i = j := by omega
            rw [ht] at h2
            obtain rfl := Option.some.inj h2
            exact hb
        clear hp hb
        generalize triC t = T1 at *
        repeat (first | (show Walk1 _ _ _ (_ :: _) _ _; first | (show HW1 (.move _); refine wz1 ?_) | (show HW1 (.binOp .add _ _ _ _); refine wz10 ?_) | (show HW1 (.binOp .lss _ _ _ _); refine wz5 ?_) | (show HW1 (.indexAddr _ _ _); refine wz26 ?_) | (show HW1 (.load _ _); first | refine wz9 ?_ | refine wz51 ?_) | (show HW1 (.store _ _ _); refine wz23 ?_) | (show HW1 (.alloc _); refine wz6 ?_) | (show HW1 (.call ⟨.value (.func 8), _, _⟩); ((first | refine cwalk11 8 ?_ | refine cwalk10 8 ?_); refine ⟨_, fun e w => co w, ?_⟩))) | refine go1 ?_ | refine end_block_other rfl ?_ | refine end_scope (fun _ h => by cases h) ?_ | (refine walk_endD ?_ ?_; (· kernel_rfl)) | refine tri_yesA rfl ?_ | refine tri_noA rfl ?_ | refine tri_trueA rfl ?_ | refine tri_falseA rfl ?_)
        exact nx _ ⟨by omega, hp2⟩ (by omega) (by exact ent_kp)
    · obtain ⟨t, ht, hf⟩ := hfar
      obtain ⟨i, hi, rfl⟩ := List.getElem_of_mem ht
      rw [hp i _ (by omega) (List.getElem?_eq_getElem hi)] at hf
      cases hf
  · have hnf : ∀ t ∈ D, farT t = false := fun t ht => by
      cases hb : farT t with
      | false => rfl
      | true => exact absurd ⟨t, ht, hb⟩ hfar
    have cN := fun w h => build_all D hDok (by omega) hnf (.slice au D.length cu) w h
    refine calls_tri Try.func3 rfl Try.ntmps3 rfl ?_
    repeat (first | (show Walk1 _ _ _ (_ :: _) _ _; first | (show HW1 (.assign _); refine wz2 ?_) | (show HW1 (.load _ _); refine wz3 ?_) | (show HW1 (.store _ _ _); refine wz50 ?_) | (show HW1 (.box _ _); refine wz11 ?_) | (show HW1 (.call ⟨.value (.func 6), _, _⟩); (refine cwalk1M 6 ?_; refine ⟨_, _, callM_1 (rdn_old hrd (by omega) rfl) (fun e w h1 => cf w h1), ?_⟩))) | refine go1 ?_ | refine end_block_other rfl ?_ | refine end_scope (fun _ h => by cases h) ?_ | (refine walk_endD ?_ ?_; (· kernel_rfl)) | refine tri_yesA rfl ?_ | refine tri_noA rfl ?_ | refine tri_trueA rfl ?_ | refine tri_falseA rfl ?_)
    refine walk1_callB (rb := []) (vs := [.c (.slice au D.length cu)]) 901 902 rfl rfl rfl rfl evq rfl rfl (by kernel_rfl) (fun S' e a w' hS _ => cN w' (rdn_old (S := S') hfx.rd (by omega) rfl S' e a w' (fun _ h => by cases h) hS)) ?_
    repeat (first | (show Walk1 _ _ _ (_ :: _) _ _; first | (show HW1 (.move _); refine wz1 ?_) | (show HW1 (.alloc _); refine wz6 ?_) | (show HW1 (.extract _ _); refine wz84 ?_)) | refine go1 ?_ | refine end_block_other rfl ?_ | refine end_scope (fun _ h => by cases h) ?_ | (refine walk_endD ?_ ?_; (· kernel_rfl)) | refine tri_yesA rfl ?_ | refine tri_noA rfl ?_ | refine tri_trueA rfl ?_ | refine tri_falseA rfl ?_)
    refine walk1_b (op_storeB (q1 := 901) (q2 := 902) rfl rfl rfl rfl rfl (fun _ => rfl) rfl rfl rfl rfl (fun _ => rfl)) ?_
    repeat (first | (show Walk1 _ _ _ (_ :: _) _ _; first | (show HW1 (.move _); refine wz40 ?_) | (show HW1 (.assign _); refine wz2 ?_) | (show HW1 (.load _ _); refine wz3 ?_) | (show HW1 (.call ⟨.builtin .len, _, _⟩); refine wz39 ?_)) | refine go1 ?_ | refine end_block_other rfl ?_ | refine end_scope (fun _ h => by cases h) ?_ | (refine walk_endD ?_ ?_; (· kernel_rfl)) | refine tri_yesA rfl ?_ | refine tri_noA rfl ?_ | refine tri_trueA rfl ?_ | refine tri_falseA rfl ?_)
    have hlen := tris_len D hDok
    have hrow := fun j t (h : D[j]? = some t) => tri_row hDok (j := j) h
    have hoff := fun (t : TriS) (h : t ∈ D) w => off_any t (hDok t h) w
    obtain ⟨TC, hTC⟩ : ∃ TC, TC = trisC D := ⟨_, rfl⟩
    rw [← hTC] at hlen hrow hfx
    obtain ⟨NL, hNL⟩ : ∃ N, N = (treeL D).1 := ⟨_, rfl⟩
    obtain ⟨KL, hKL⟩ : ∃ K, K = (treeL D).2 := ⟨_, rfl⟩
    rw [← hNL, ← hKL]
    refine tri_loop (X := Nat) (fun j => ⟨[(20, SV.c (.int .i64 ((j : Nat) : Int))), (19, SV.c (.int .i64 ((D.length : Nat) : Int))), (18, .c (.slice au D.length cu)), (4, .c (.int .i64 0)), (3, .p 3 0), (1, .p 1 0)], [(3, some (.blk 3 27 (.l [.v 901, .v 902]))), (1, some (.blk 1 22 (.c #[.slice au D.length cu]))), (901, some (.own 901 43 10 NL.length (nodesC NL))), (902, some (.own 902 3 1 KL.length (ordC KL)))]⟩)
      (fun j => j ≤ D.length) (fun j => D.length - j) 0 (by omega) (by exact ent_kp) ?_
    intro j hj Q next
    by_cases h : j < D.length
    · obtain ⟨t, ht⟩ : ∃ t, D[j]? = some t := ⟨_, List.getElem?_eq_getElem h⟩
      have hr := hrow j t ht
      have co := fun w => hoff t (List.mem_of_getElem? ht) w
      rw [hnf t (List.mem_of_getElem? ht)] at co
      have hts : (triC t).toArray.size = 19 := by rw [List.size_toArray]; exact triC_length t (hDok t (List.mem_of_getElem? ht))
      have hto : (triC t).toArray.all (·.oneCell') = true := by
        rw [List.all_toArray, List.all_eq_true]
        exact fun z hz => tris_oneC [t] (fun t' h' => by obtain rfl := List.mem_singleton.1 h'; exact hDok _ (List.mem_of_getElem? ht)) z (by simpa [trisC] using hz)
      have hrl : 0 + j * 19 + 19 ≤ TC.length := by omega
      have nx := fun S' => next S' (j + 1)
      clear next hrow hoff hlen
      generalize triC t = T1 at *
      repeat (first | (show Walk1 _ _ _ (_ :: _) _ _; first | (show HW1 (.move _); refine wz1 ?_) | (show HW1 (.binOp .add _ _ _ _); refine wz10 ?_) | (show HW1 (.binOp .lss _ _ _ _); refine wz5 ?_) | (show HW1 (.indexAddr _ _ _); refine wz26 ?_) | (show HW1 (.load _ _); first | refine wz9 ?_ | refine wz51 ?_) | (show HW1 (.store _ _ _); refine wz23 ?_) | (show HW1 (.alloc _); refine wz6 ?_) | (show HW1 (.call ⟨.value (.func 8), _, _⟩); ((first | refine cwalk11 8 ?_ | refine cwalk10 8 ?_); refine ⟨_, fun e w => co w, ?_⟩))) | refine go1 ?_ | refine end_block_other rfl ?_ | refine end_scope (fun _ h => by cases h) ?_ | (refine walk_endD ?_ ?_; (· kernel_rfl)) | refine tri_yesA rfl ?_ | refine tri_noA rfl ?_ | refine tri_trueA rfl ?_ | refine tri_falseA rfl ?_)
      exact nx _ (by omega) (by omega) (by exact ent_kp)
    obtain rfl : j = D.length := by omega
    clear next hrow hoff
    iterate 13 (try (first | (show Walk1 _ _ _ (_ :: _) _ _; (show HW1 (.binOp .lss _ _ _ _); refine wz5 ?_)) | refine go1 ?_ | refine end_block_other rfl ?_ | refine end_scope (fun _ h => by cases h) ?_ | (refine walk_endD ?_ ?_; (· kernel_rfl)) | refine tri_yesA rfl ?_ | refine tri_noA rfl ?_ | refine tri_trueA rfl ?_ | refine tri_falseA rfl ?_))
    refine tri_close rfl fun e w1 hb hr => ?_
    have r1 := fs_ownN (hr 901 _ rfl)
    have r2 := fs_ownN (hr 902 _ rfl)
    have r4 : FS w1 2 (blkV (e 3).b) 1 [(e 901).v, (e 902).v] := fs_blkN (hr 3 _ rfl) rfl
    have r7 : FS w1 1 (blkV (e 1).b) 1 [.slice au D.length cu] := fs_blkN (hr 1 _ rfl) rfl
    obtain ⟨fr, r5, r6⟩ := hr 1 _ rfl
    obtain rfl := r6 rfl
    have B1 : Blk w1 (e 1).b #[.slice au D.length cu] 22 := r5
    refine tri_keep [(4, .c (.int .i64 0)), (3, .c (ptrV (blkV (e 3).b) 0)), (1, .c (ptrV (blkV (e 1).b) 0))] [] (by repeat (first | exact hasT_nil | refine hasT_cons rfl ?_ | refine hasT_eq rfl (svi (by omega)) ?_)) (by exact hasR_nil) ?_
    have hvx := hfx.anew (by omega) hb
    clear hr cf cN r5 r6
    generalize (e 901).v = v1 at *
    generalize (e 902).v = v2 at *
    generalize (e 3).b = b3 at *
    generalize (e 1).b = b1 at *
    obtain ⟨A1, hA1⟩ : ∃ A, A = [v1, v2] := ⟨_, rfl⟩
    rw [← hA1] at r4
    have p0 : A1[0]? = some v1 := by rw [hA1]; rfl
    have p1 : A1[1]? = some v2 := by rw [hA1]; rfl
    have p2 : (A1.drop 0).take 2 = [v1, v2] := by rw [hA1]; rfl
    have p4 : A1.length = 2 := by rw [hA1]; rfl
    clear hA1
    obtain ⟨A2, hA2⟩ : ∃ A : List Value, A = [.slice au D.length cu] := ⟨_, rfl⟩
    rw [← hA2] at r7
    have p5 : A2[0]? = some (.slice au D.length cu) := by rw [hA2]; rfl
    have p6 : A2.length = 1 := by rw [hA2]; rfl
    clear hA2
    obtain ⟨M, DD, hSF⟩ := sound_of D (fun t ht => near_of (hnf t ht)) (by omega)
    rw [← hNL, ← hKL] at hSF
    have hNl := hSF.nl
    have cS : ∀ w, FS w 10 v1 NL.length (nodesC NL) → FS w 1 v2 KL.length (ordC KL) → FS w 19 (.slice au D.length cu) D.length TC → Calls Try.prog 10 #[.agg #[v1, v2], .slice au D.length cu] w fun e w' => e = .returned (.bool true) ∧ Below w.heap.size w w' := fun w g1 g2 g3 => by
      by_cases h0 : 0 < D.length
      · exact soundR_any hDok hSF (by omega) h0 v1 v2 _ w g1 g2 (hTC ▸ g3)
      · have hD0 : D = [] := List.eq_nil_of_length_eq_zero (by omega)
        subst hD0
        subst hNL hKL hTC
        exact soundR_nil v1 v2 _ w g1 g2 g3
    have cD := fun w g1 => deepR_any hSF (by omega) v1 v2 w g1
    have hDe : (if NL.length = 0 then 0 else DD 0) ≤ 64 := by
      have := hSF.deep
      split <;> omega
    generalize (if NL.length = 0 then 0 else DD 0) = DV at *
    obtain ⟨G, hG⟩ : ∃ G : Nat → Value, ∀ x, G x = .agg (midT (D.getD x zT)).c := ⟨_, fun _ => rfl⟩
    have hT : TellOK w1 [] (.func (.func 12) #[] #[.pointer (some ⟨b1, 0, none⟩)]) D.length G := by
      refine ⟨⟨12, _, ⟨_, rfl, tabAll_look calT_ok rfl⟩, fun w' hw x hx => ?_⟩⟩
      obtain ⟨t, ht⟩ : ∃ t, D[x]? = some t := ⟨_, List.getElem?_eq_getElem hx⟩
      rw [hG, getD_of_tri ht]
      have hw' : Below w1.heap.size w1 w' := ⟨hw.os, hw.tape, hw.output, hw.size, fun k hk => hw.block k hk (by simp)⟩
      exact mid21_any D hDok (fun t ht => near_of (hnf t ht)) _ b1 w' (B1.laterX hw (by simp)) (hTC ▸ (hvx.anew (by omega) hw').rd) x t ht
    have hnode := hSF.nodes
    have hlenN := nodes_len NL
    have hKl : KL.length = D.length := by rw [hSF.perm.length_eq, List.length_range]
    have hKin : ∀ j k, KL[j]? = some k → k < D.length := fun j k h => List.mem_range.1 ((hSF.perm.mem_iff (a := k)).1 (List.mem_of_getElem? h))
    have hrows := fun (i : Nat) (n : NodeS) (h : NL[i]? = some n) => node_row h
    clear hSF hNL hKL hTC hDok hnf B1
    generalize hNC : nodesC NL = NC at *
    repeat (first | (show Walk1 _ _ _ (_ :: _) _ _; first | (show Walk1 _ _ _ (⟨_, _, _, _, _, some _⟩ :: _) _ _; refine zy1 ?_) | (show HW1 (.move _); first | refine wz40 ?_ | refine wz1 ?_) | (show HW1 (.binOp .gtr _ _ _ _); refine wz33 ?_) | (show HW1 (.binOp .neq _ _ _ _); refine wz61 ?_) | (show HW1 (.pick _ _ _); refine wz7 ?_) | (show HW1 (.unOp _ _ _); refine wz19 ?_) | (show HW1 (.load _ _); first | refine wz44 ?_ | refine wz51 ?_) | (show HW1 (.fieldAddr _ _ _); refine walk1_t (op_fldF rfl rfl rfl rfl rva (by omega) rfl rfl off_zero) ?_) | (show HW1 (.call ⟨.builtin .len, _, _⟩); refine wz27 ?_) | (show HW1 (.call ⟨.value (.func 10), _, _⟩); (refine cwalk1M 10 ?_; refine ⟨[], _, (fun S2 e a w hS hq => cS w (r1.anew (by omega) (hS.frame.below rfl)) (r2.anew (by omega) (hS.frame.below rfl)) (hvx.anew (by omega) (hS.frame.below rfl))), ?_⟩)) | (show HW1 (.call ⟨.value (.func 11), _, _⟩); (refine cwalk1M 11 ?_; refine ⟨[], _, (fun S2 e a w hS hq => cD w (r1.anew (by omega) (hS.frame.below rfl))), ?_⟩))) | refine go1 ?_ | refine end_block_other rfl ?_ | refine end_scope (fun _ h => by cases h) ?_ | (refine walk_endD ?_ ?_; (· kernel_rfl)) | refine tri_yesA rfl ?_ | refine tri_noA rfl ?_ | refine tri_trueA rfl ?_ | refine tri_falseA rfl ?_)
    clear cS cD
    refine tri_loop (X := Nat) (fun j => ⟨[(54, SV.c (.int .i64 ((j : Nat) : Int))), (53, SV.c (.int .i64 ((NL.length : Nat) : Int))), (52, .c v1), (3, .c (ptrV (blkV b3) 0)), (1, .c (ptrV (blkV b1) 0))], []⟩)
      (fun j => j ≤ NL.length) (fun j => NL.length - j) 0 (by omega) (by exact ent_kp) ?_
    intro j hj Q next
    by_cases h : j < NL.length
    · obtain ⟨nd, hnd⟩ : ∃ nd, NL[j]? = some nd := ⟨_, List.getElem?_eq_getElem h⟩
      have hrow := hrows j nd hnd
      have hrl : 0 + j * 10 + 10 ≤ NC.length := by omega
      have nx := fun S' => next S' (j + 1)
      have hk := hnode j nd hnd
      clear hnode hrows next cw
      obtain ⟨⟨lx, ly, lz⟩, ⟨hx, hy, hz⟩, le, ri, fi, co⟩ := nd
      rw [nodeC_row] at hrow
      rcases hk with ⟨f, c, ⟨e1, e2, e3, e4, e5, e6, e7⟩, _⟩ | ⟨L, R, ⟨e1, e2, e3, e4, c1, c2, c3, c4⟩, _⟩
      · dsimp only at e1 e2 e3 e4
        subst e1 e2 e3 e4
        by_cases hc4 : c ≤ 4
        · repeat (first | (show Walk1 _ _ _ (_ :: _) _ _; first | (show Walk1 _ _ _ (⟨_, _, _, _, _, some _⟩ :: _) _ _; refine zy1 ?_) | (show HW1 (.move _); refine wz1 ?_) | (show HW1 (.binOp .add _ _ _ _); refine wz10 ?_) | (show HW1 (.binOp .lss _ _ _ _); refine wz5 ?_) | (show HW1 (.binOp .leq _ _ _ _); refine wz64 ?_) | (show HW1 (.binOp .neq _ _ _ _); refine wz87 ?_) | (show HW1 (.pick _ _ _); refine wz7 ?_) | (show HW1 (.indexAddr _ _ _); refine wz26 ?_) | (show HW1 (.load _ _); first | refine wz3 ?_ | refine wz51 ?_) | (show HW1 (.store _ _ _); refine wz14 ?_) | (show HW1 (.alloc _); refine wz6 ?_) | (show HW1 (.fieldAddr _ _ _); refine wz4 ?_)) | refine go1 ?_ | refine end_block_other rfl ?_ | refine end_scope (fun _ h => by cases h) ?_ | (refine walk_endD ?_ ?_; (· kernel_rfl)) | refine tri_yesA rfl ?_ | refine tri_noA rfl ?_ | refine tri_trueA rfl ?_ | refine tri_falseA rfl ?_)
          exact nx _ (by omega) (by omega) (by exact ent_kp)
        · have e8 : sameM D ((KL.drop f).take c) := by
            rcases e7 with h | h
            · exact absurd h hc4
            · exact h
          clear e7
          obtain ⟨⟨mx, my, mz⟩, hmp⟩ := e8
          have hgm : ∀ i k, i < c → KL[f + i]? = some k → G k = .agg #[.int .i64 mx, .int .i64 my, .int .i64 mz] := fun i k hi hk => by
            rw [hG, hmp k]
            · rfl
            · refine List.mem_of_getElem? (i := i) ?_
              rw [List.getElem?_take, if_pos hi, List.getElem?_drop]
              exact hk
          clear hmp hG
          have hq := eqP_refl mx my mz
          obtain ⟨k0, hk0⟩ : ∃ k, KL[f]? = some k := ⟨_, List.getElem?_eq_getElem (by omega)⟩
          have g0 := hgm 0 k0 (by omega) hk0
          have l0 := hKin f k0 hk0
          have q0 := ordC_get hk0
          repeat (first | (show Walk1 _ _ _ (_ :: _) _ _; first | (show Walk1 _ _ _ (⟨_, _, _, _, _, some _⟩ :: _) _ _; refine zy1 ?_) | (show HW1 (.move _); refine wz1 ?_) | (show HW1 (.binOp .lss _ _ _ _); refine wz5 ?_) | (show HW1 (.binOp .leq _ _ _ _); refine wz64 ?_) | (show HW1 (.binOp .neq _ _ _ _); refine wz87 ?_) | (show HW1 (.pick _ _ _); refine wz7 ?_) | (show HW1 (.indexAddr _ _ _); refine wz26 ?_) | (show HW1 (.load _ _); first | refine wz3 ?_ | refine wz51 ?_) | (show HW1 (.store _ _ _); refine wz14 ?_) | (show HW1 (.alloc _); refine wz6 ?_) | (show HW1 (.fieldAddr _ _ _); refine wz4 ?_)) | refine go1 ?_ | refine end_block_other rfl ?_ | refine end_scope (fun _ h => by cases h) ?_ | (refine walk_endD ?_ ?_; (· kernel_rfl)) | refine tri_yesA rfl ?_ | refine tri_noA rfl ?_ | refine tri_trueA rfl ?_ | refine tri_falseA rfl ?_)
          refine walk1_t (op_makeFn (vs := [.c (ptrV (blkV b1) 0)]) rfl rfl rfl evq) ?_
          repeat (first | (show Walk1 _ _ _ (_ :: _) _ _; first | (show HW1 (.assign _); refine wz2 ?_) | (show HW1 (.load _ _); refine wz3 ?_) | (show HW1 (.fieldAddr _ _ _); refine wz4 ?_)) | refine go1 ?_ | refine end_block_other rfl ?_ | refine end_scope (fun _ h => by cases h) ?_ | (refine walk_endD ?_ ?_; (· kernel_rfl)) | refine tri_yesA rfl ?_ | refine tri_noA rfl ?_ | refine tri_trueA rfl ?_ | refine tri_falseA rfl ?_)
          refine tri_loop (X := Nat) (fun i => ⟨[(10, SV.c (.int .i64 ((f + i : Nat) : Int))), (54, SV.c (.int .i64 ((j : Nat) : Int))), (53, SV.c (.int .i64 ((NL.length : Nat) : Int))), (52, .c v1), (9, .clo 12 [.c (ptrV (blkV b1) 0)]), (8, .p 8 0), (3, .c (ptrV (blkV b3) 0)), (1, .c (ptrV (blkV b1) 0))], [(8, some (.blk 8 43 (.c #[.int .i64 lx, .int .i64 ly, .int .i64 lz, .int .i64 hx, .int .i64 hy, .int .i64 hz, .int .i64 (-1), .int .i64 (-1), .int .i64 (f : Int), .int .i64 (c : Int)])))]⟩)
            (fun i => i ≤ c) (fun i => c - i) 0 (by omega) (by exact ent_kp) ?_
          intro i hi Q2 next2
          by_cases hic : i < c
          · obtain ⟨k1, hk1⟩ : ∃ k, KL[f + i]? = some k := ⟨_, List.getElem?_eq_getElem (by omega)⟩
            have g1 := hgm i k1 hic hk1
            have l1 := hKin _ k1 hk1
            have q1 := ordC_get hk1
            have nx2 := fun S' => next2 S' (i + 1)
            clear next2 nx hgm hKin
            repeat (first | (show Walk1 _ _ _ (_ :: _) _ _; first | (show HW1 (.move _); refine wz1 ?_) | (show HW1 (.assign _); refine wz2 ?_) | (show HW1 (.binOp .add _ _ _ _); refine wz10 ?_) | (show HW1 (.binOp .lss _ _ _ _); refine wz5 ?_) | (show HW1 (.load _ _); refine wz3 ?_) | (show HW1 (.fieldAddr _ _ _); refine wz4 ?_)) | (show WalkTo _ _ _ _ (_ :: _) _ _ _; first | (show HW2 (.move _); refine wz20 ?_) | (show HW2 (.binOp .neq _ _ _ _); refine walk_t (op_neR (by assumption) rfl rfl rfl rfl rfl (fun _ => rfl) (fun _ => rfl) (by kernel_rfl)) ?_) | (show HW2 (.indexAddr _ _ _); refine walk_t (op_idxF rfl rfl rfl rfl evk rfl rfl rva (by first | omega | decide) off_one) ?_) | (show HW2 (.load _ _); first | refine wz24 ?_ | refine walk_t (op_loadF rfl rfl rfl rfl rfl rfl rfl rva (by omega) (by assumption)) ?_) | (show HW2 (.fieldAddr _ _ _); first | refine wz49 ?_ | refine walk_t (op_fldF rfl rfl rfl rfl rva (by omega) rfl rfl off_zero) ?_) | (show HW2 (.call ⟨.value (.tmp _), _, _⟩); refine walk_t (op_callTellV g1 hT rfl rfl (fun _ => rfl) rfl rfl rfl l1) ?_) | (show HW2 (.call ⟨.value (.tmp _), _, _⟩); refine walk_t (op_callTellV g0 hT rfl rfl (fun _ => rfl) rfl rfl rfl l0) ?_)) | refine go1 ?_ | refine end_block_other rfl ?_ | refine end_scope (fun _ h => by cases h) ?_ | (refine walk_endD ?_ ?_; (· kernel_rfl)) | refine tri_yesA rfl ?_ | refine tri_noA rfl ?_ | refine tri_trueA rfl ?_ | refine tri_falseA rfl ?_)
            exact nx2 _ (by omega) (by omega) (by exact ent_kp)
          · obtain rfl : i = c := by omega
            clear next2
            repeat (first | (show Walk1 _ _ _ (_ :: _) _ _; first | (show HW1 (.move _); refine wz1 ?_) | (show HW1 (.binOp .add _ _ _ _); refine wz10 ?_) | (show HW1 (.binOp .lss _ _ _ _); refine wz5 ?_) | (show HW1 (.load _ _); refine wz3 ?_) | (show HW1 (.fieldAddr _ _ _); refine wz4 ?_)) | refine go1 ?_ | refine end_block_other rfl ?_ | refine end_scope (fun _ h => by cases h) ?_ | (refine walk_endD ?_ ?_; (· kernel_rfl)) | refine tri_yesA rfl ?_ | refine tri_noA rfl ?_ | refine tri_trueA rfl ?_ | refine tri_falseA rfl ?_)
            exact nx _ (by omega) (by omega) (by exact ent_kp)
      · dsimp only at e1 e2 e3 e4
        subst e1 e2 e3 e4
        repeat (first | (show Walk1 _ _ _ (_ :: _) _ _; first | (show Walk1 _ _ _ (⟨_, _, _, _, _, some _⟩ :: _) _ _; refine zn1 ?_) | (show HW1 (.move _); refine wz1 ?_) | (show HW1 (.binOp .add _ _ _ _); refine wz10 ?_) | (show HW1 (.binOp .lss _ _ _ _); refine wz5 ?_) | (show HW1 (.binOp .neq _ _ _ _); refine wz87 ?_) | (show HW1 (.pick _ _ _); refine wz8 ?_) | (show HW1 (.indexAddr _ _ _); refine wz26 ?_) | (show HW1 (.load _ _); first | refine wz3 ?_ | refine wz51 ?_) | (show HW1 (.store _ _ _); refine wz14 ?_) | (show HW1 (.alloc _); refine wz6 ?_) | (show HW1 (.fieldAddr _ _ _); refine wz4 ?_)) | refine go1 ?_ | refine end_block_other rfl ?_ | refine end_scope (fun _ h => by cases h) ?_ | (refine walk_endD ?_ ?_; (· kernel_rfl)) | refine tri_yesA rfl ?_ | refine tri_noA rfl ?_ | refine tri_trueA rfl ?_ | refine tri_falseA rfl ?_)
        exact nx _ (by omega) (by omega) (by exact ent_kp)
    · obtain rfl : j = NL.length := by omega
      clear next
      repeat (first | (show Walk1 _ _ _ (_ :: _) _ _; first | (show HW1 (.assign _); refine wz2 ?_) | (show HW1 (.binOp .lss _ _ _ _); refine wz5 ?_) | (show HW1 (.call ⟨.value (.func 9), _, _⟩); ((first | refine cwalk11 9 ?_ | refine cwalk10 9 ?_); refine ⟨_, fun e w => cw w, ?_⟩))) | refine go1 ?_ | refine end_block_other rfl ?_ | refine end_scope (fun _ h => by cases h) ?_ | (refine walk_endD ?_ ?_; (· kernel_rfl)) | refine tri_yesA rfl ?_ | refine tri_noA rfl ?_ | refine tri_trueA rfl ?_ | refine tri_falseA rfl ?_)
      refine end_ret (.c (.bool true)) (res_tmp rfl rfl) ?_
      exact fin_anew hb fun _ => rfl
end Go.Proofs.Ytcgmapioelfneaa
