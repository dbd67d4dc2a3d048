/- The law WalkBoxes: walked. No condition. -/
import Derived.Test.YtcookaiakfbdiaaMgWkH
import Derived.Test.YtcookaiakfbdiaaMgWkJ
import Derived.Test.YtcookaiakfbdiaaMgSwp11
namespace Go.Proofs.Ytcookaiakfbdiaa
open Go.RowKit
set_option maxRecDepth 100000
set_option maxHeartbeats 20000000
theorem far_or (l : List TriS) : (∃ t ∈ l, farT t = true) ∨ (∀ t ∈ l, farT t = false) := by
  by_cases h : ∃ t ∈ l, farT t = true
  · exact .inl h
  · refine .inr fun t ht => ?_
    cases hb : farT t with
    | false => rfl
    | true => exact absurd ⟨t, ht, hb⟩ h
attribute [local irreducible] Calls Walk1 WalkTo Tri EndA
theorem walkBoxes_walk (v : Value) (es : List TriS) (hok : ∀ e ∈ es, e.ok) (o d : P3) (mask : BitVec 8) (skip : Int) (near : Bool) (w : World) (hv : FS w 19 v es.length (trisC es)) :
    Calls Try.prog 3 #[v, .agg (askC o d mask skip near)] w fun e w' => e = .returned (.bool true) ∧ Below w.heap.size w w' := by
  obtain ⟨D, u, hD, hDok, hfx, hcv⟩ := few21_cut hv hok
  have hrd := hv.rd
  have hsl := hv.2
  have cf := fun w h => few21_any es.length (trisC es) v w ⟨h, hsl⟩
  rw [hcv] at cf
  have hdr := hfx.rd
  have cw := fun w => works22_any w
  rcases far_or D with hfar | hnf
  · have cB := fun w h => buildFar_any D hDok (by omega) hfar u w h
    clear hfar hcv hsl hfx hok hDok hv
    obtain ⟨ox, oy, oz⟩ := o
    obtain ⟨dx, dy, dz⟩ := d
    simp only [askC]
    generalize trisC D = XS at *
    generalize trisC es = ES at *
    generalize es.length = EL at *
    generalize D.length = n at *
    refine calls_tri Try.func3 rfl Try.ntmps3 rfl ?_
    repeat (first | (show Walk1 _ _ _ (_ :: _) _ _; first | (show Walk1 _ _ _ (⟨_, _, _, _, _, some _⟩ :: _) _ _; refine zy1 ?_) | (show HW1 (.move _); refine wz1 ?_) | (show HW1 (.assign _); refine wz2 ?_) | (show HW1 (.binOp .eql _ _ _ _); refine wz30 ?_) | (show HW1 (.binOp .neq _ _ _ _); refine wz61 ?_) | (show HW1 (.pick _ _ _); refine wz8 ?_) | (show HW1 (.store _ _ _); refine wz14 ?_) | (show HW1 (.alloc _); refine wz6 ?_) | (show HW1 (.box _ _); refine wz11 ?_) | (show HW1 (.extract _ _); first | refine wz16 ?_ | refine wz15 ?_) | (show HW1 (.call ⟨.value (.func 8), _, _⟩); (refine cwalk1M 8 ?_; refine ⟨_, _, callM_1 (rdn_old hrd (by omega) rfl) (fun e w h1 => cf w h1), ?_⟩)) | (show HW1 (.call ⟨.value (.func 9), _, _⟩); (refine cwalk1M 9 ?_; refine ⟨_, _, callM_1 (rdn_old hdr (by omega) rfl) (fun e w h1 => cB w h1), ?_⟩)) | (show HW1 (.call ⟨.value (.func 10), _, _⟩); ((first | refine cwalk11 10 ?_ | refine cwalk10 10 ?_); refine ⟨_, fun e w => cw w, ?_⟩))) | refine go1 ?_ | refine end_block_other rfl ?_ | refine end_scope (fun _ h => by cases h) ?_ | (refine walk_endD ?_ ?_; (· kernel_rfl)) | refine tri_yesA rfl ?_ | refine tri_noA rfl ?_ | refine tri_trueA rfl ?_ | refine tri_falseA rfl ?_)
    refine end_ret (.c (.bool true)) (res_tmp rfl rfl) ?_
    exact fin_below fun _ => rfl
  · have cB := fun w h => build_all D hDok (by omega) hnf u w h
    have hnode : ∀ i nd, (treeL D).1[i]? = some nd → NodeF D (treeL D).1 (treeL D).2 o d nd := fun i nd hi => by
      by_cases h0 : 0 < D.length
      · exact node_facts (fun t ht => near_of (hnf t ht)) h0 o d hi
      · obtain rfl := List.eq_nil_of_length_eq_zero (show D.length = 0 by omega)
        cases i <;> cases hi
    have hNl := nodes_len (treeL D).1
    have hbd : (treeL D).1.length ≤ 1000000 ∧ (treeL D).2.length ≤ 1000000 := by
      obtain ⟨T, hW⟩ := walk_of D hDok (by omega) hnf
      exact ⟨hW.ts.nl, hW.ts.kl⟩
    have hP9 := fun k t ht => tris_P D hDok k t ht
    have hlen := tris_len D hDok
    have cX := fun (n : NodeS) w => crosses_any n.lo n.hi o d w
    have cMd := fun w => mayT_any o d w
    have cM1 := fun (p : P3) w => mayT_any p ⟨1, 0, 0⟩ w
    have cH := fun (t : TriS) w => hitT_any o d t.p0 t.p1 t.p2 w
    obtain ⟨ox, oy, oz⟩ := o
    obtain ⟨dx, dy, dz⟩ := d
    simp only [askC]
    clear hcv hsl hok hv hnf hDok
    generalize trisC es = ES at *
    generalize es.length = EL at *
    generalize hdn : D.length = dn at *
    generalize hXS : trisC D = XS at *
    generalize (treeL D).1 = NN at *
    generalize (treeL D).2 = KK at *
    generalize hNC : nodesC NN = NC at *
    generalize hKC : ordC KK = KC at *
    refine calls_tri Try.func3 rfl Try.ntmps3 rfl ?_
    repeat (first | (show Walk1 _ _ _ (_ :: _) _ _; first | (show HW1 (.move _); refine wz1 ?_) | (show HW1 (.assign _); refine wz2 ?_) | (show HW1 (.box _ _); refine wz11 ?_) | (show HW1 (.call ⟨.value (.func 8), _, _⟩); (refine cwalk1M 8 ?_; refine ⟨_, _, callM_1 (rdn_old hrd (by omega) rfl) (fun e w h1 => cf w h1), ?_⟩))) | refine go1 ?_ | refine end_block_other rfl ?_ | refine end_scope (fun _ h => by cases h) ?_ | (refine walk_endD ?_ ?_; (· kernel_rfl)) | refine tri_yesA rfl ?_ | refine tri_noA rfl ?_ | refine tri_trueA rfl ?_ | refine tri_falseA rfl ?_)
    refine walk1_callB (rb := []) (vs := [.c u]) 901 902 rfl rfl rfl rfl evq rfl rfl (by kernel_rfl) (fun S' e a w' hS _ => cB w' (rdn_old (S := S') hdr (by omega) rfl S' e a w' (fun _ h => by cases h) hS)) ?_
    repeat (first | (show Walk1 _ _ _ (_ :: _) _ _; first | (show HW1 (.move _); refine wz1 ?_) | (show HW1 (.alloc _); refine wz6 ?_) | (show HW1 (.extract _ _); refine wz84 ?_)) | refine go1 ?_ | refine end_block_other rfl ?_ | refine end_scope (fun _ h => by cases h) ?_ | (refine walk_endD ?_ ?_; (· kernel_rfl)) | refine tri_yesA rfl ?_ | refine tri_noA rfl ?_ | refine tri_trueA rfl ?_ | refine tri_falseA rfl ?_)
    refine walk1_b (op_storeB (q1 := 901) (q2 := 902) rfl rfl rfl rfl rfl (fun _ => rfl) rfl rfl rfl rfl (fun _ => rfl)) ?_
    repeat (first | (show Walk1 _ _ _ (_ :: _) _ _; first | (show HW1 (.move _); first | refine wz40 ?_ | refine wz1 ?_) | (show HW1 (.assign _); refine wz2 ?_) | (show HW1 (.binOp .neq _ _ _ _); refine wz61 ?_) | (show HW1 (.load _ _); refine wz3 ?_) | (show HW1 (.fieldAddr _ _ _); refine wz4 ?_) | (show HW1 (.call ⟨.builtin .len, _, _⟩); refine wz57 ?_)) | refine go1 ?_ | refine end_block_other rfl ?_ | refine end_scope (fun _ h => by cases h) ?_ | (refine walk_endD ?_ ?_; (· kernel_rfl)) | refine tri_yesA rfl ?_ | refine tri_noA rfl ?_ | refine tri_trueA rfl ?_ | refine tri_falseA rfl ?_)
    refine tri_close rfl fun e w1 hb hr => ?_
    have r1 := fs_ownN (hr 901 _ rfl)
    have r2 := fs_ownN (hr 902 _ rfl)
    have r5 : FS w1 2 (blkV (e 5).b) 1 [(e 901).v, (e 902).v] := fs_blkN (hr 5 _ rfl) rfl
    have r3 : FS w1 9 (blkV (e 3).b) 1 [.int .i64 ox, .int .i64 oy, .int .i64 oz, .int .i64 dx, .int .i64 dy, .int .i64 dz, .int .u8 (bvi mask), .int .i64 skip, .bool near] := fs_blkN (hr 3 _ rfl) rfl
    refine tri_keep [(33, SV.c (.int .i64 ((0 : Nat) : Int))), (32, SV.c (.int .i64 ((NN.length : Nat) : Int))), (31, .c (e 901).v), (0, .c u), (3, .c (ptrV (blkV (e 3).b) 0)), (4, .c (.bool false)), (5, .c (ptrV (blkV (e 5).b) 0))] [] (by repeat (first | exact hasT_nil | refine hasT_cons rfl ?_ | refine hasT_eq rfl (svi (by omega)) ?_)) (by exact hasR_nil) ?_
    clear hr
    generalize (e 901).v = v1 at *
    generalize (e 902).v = v2 at *
    generalize (e 3).b = b3 at *
    generalize (e 5).b = b5 at *
    replace hfx := hfx.anew (by omega) hb
    obtain ⟨AC, hAC⟩ : ∃ AC : List Value, AC = [.int .i64 ox, .int .i64 oy, .int .i64 oz, .int .i64 dx, .int .i64 dy, .int .i64 dz, .int .u8 (bvi mask), .int .i64 skip, .bool near] := ⟨_, rfl⟩
    rw [← hAC] at r3
    have aL : AC.length = 9 := by rw [hAC]; rfl
    have a0 : (AC.drop 0).take 3 = [.int .i64 ox, .int .i64 oy, .int .i64 oz] := by rw [hAC]; rfl
    have a3 : (AC.drop 3).take 3 = [.int .i64 dx, .int .i64 dy, .int .i64 dz] := by rw [hAC]; rfl
    clear hAC
    have k0 : [v1, v2][0]? = some v1 := rfl
    have k1 : [v1, v2][1]? = some v2 := rfl
    clear hdr cB cf hrd
    refine tri_loop (X := Nat) (fun i => ⟨[(33, SV.c (.int .i64 ((i : Nat) : Int))), (32, SV.c (.int .i64 ((NN.length : Nat) : Int))), (31, .c v1), (0, .c u), (3, .c (ptrV (blkV b3) 0)), (4, .c (.bool false)), (5, .c (ptrV (blkV b5) 0))], []⟩)
      (fun i => i ≤ NN.length) (fun i => NN.length - i) 0 (by omega) (by exact ent_kp) ?_
    intro i hi K next
    by_cases h : i < NN.length
    · obtain ⟨nd, hnd⟩ : ∃ nd, NN[i]? = some nd := ⟨_, List.getElem?_eq_getElem h⟩
      have hrow : (NC.drop (0 + i * 10)).take 10 = nodeC nd := by
        rw [Nat.zero_add, ← hNC]
        exact flat_row (sz := 10) (f := nodeC) NN (fun _ _ => nodeC_length _) i nd hnd
      have hrl : 0 + i * 10 + 10 ≤ NC.length := by omega
      have nx := fun S' => next S' (i + 1)
      have hF := hnode i nd hnd
      have cX1 := fun w => cX nd w
      have cMl := fun w => cM1 nd.lo w
      have cMh := fun w => cM1 nd.hi w
      have h3 : i ≠ 0 ∨ (i = 0 ∧ cross22 nd.lo nd.hi ⟨ox, oy, oz⟩ ⟨dx, dy, dz⟩ = false) ∨ (i = 0 ∧ cross22 nd.lo nd.hi ⟨ox, oy, oz⟩ ⟨dx, dy, dz⟩ = true ∧ mayP ⟨ox, oy, oz⟩ ⟨dx, dy, dz⟩ = true ∧ (!mayP ⟨ox, oy, oz⟩ ⟨dx, dy, dz⟩) = false) := by
        by_cases hi0 : i = 0
        · cases hc : cross22 nd.lo nd.hi ⟨ox, oy, oz⟩ ⟨dx, dy, dz⟩ with
          | false => exact .inr (.inl ⟨hi0, rfl⟩)
          | true => exact .inr (.inr ⟨hi0, rfl, (cross_parts hc).1, by rw [(cross_parts hc).1]; rfl⟩)
        · exact .inl hi0
      rcases hF with ⟨L, R, eL, eR, eF, eC, hch⟩ | ⟨f, c, eL, eF, eC, hfc, hch⟩
      · obtain ⟨⟨lx, ly, lz⟩, ⟨hx, hy, hz⟩, le, ri, fi, co⟩ := nd
        dsimp only at eL eR eF eC hch cX1 cMl cMh h3
        subst eL eR eF eC
        rw [show nodeC ⟨⟨lx, ly, lz⟩, ⟨hx, hy, hz⟩, (L : Int), (R : Int), 0, 0⟩ = [.int .i64 lx, .int .i64 ly, .int .i64 lz, .int .i64 hx, .int .i64 hy, .int .i64 hz, .int .i64 (L : Int), .int .i64 (R : Int), .int .i64 0, .int .i64 0] from rfl] at hrow
        have step : ∀ k, k = L ∨ k = R → ∃ c : NodeS, k < NN.length ∧ (NC.drop (0 + k * 10 + 0)).take 3 = c.lo.c.toList ∧ (NC.drop (0 + k * 10 + 3)).take 3 = c.hi.c.toList ∧ Four (cross22 c.lo c.hi ⟨ox, oy, oz⟩ ⟨dx, dy, dz⟩) (cross22 ⟨lx, ly, lz⟩ ⟨hx, hy, hz⟩ ⟨ox, oy, oz⟩ ⟨dx, dy, dz⟩) (mayP ⟨lx, ly, lz⟩ ⟨1, 0, 0⟩) (mayP ⟨hx, hy, hz⟩ ⟨1, 0, 0⟩) := by
          intro k hk
          obtain ⟨c, hc, hs⟩ := hch k hk
          have hr10 : (NC.drop (k * 10)).take 10 = nodeC c := by
            rw [← hNC]
            exact flat_row (sz := 10) (f := nodeC) NN (fun _ _ => nodeC_length _) k c hc
          have hd := List.take_append_drop 3 ((NC.drop (k * 10)).take 10)
          refine ⟨c, (List.getElem?_eq_some_iff.1 hc).1, ?_, ?_, fourB_of (fun hh => (cross_parts hh).1) fun hh => hs (cross_parts hh).2⟩
          · have : (NC.drop (0 + k * 10 + 0)).take 3 = ((NC.drop (k * 10)).take 10).take 3 := by rw [List.take_take, Nat.zero_add, Nat.add_zero]; rfl
            rw [this, hr10]; rfl
          · have : (NC.drop (0 + k * 10 + 3)).take 3 = (((NC.drop (k * 10)).take 10).drop 3).take 3 := by rw [List.drop_take, List.take_take, List.drop_drop, Nat.zero_add]; rfl
            rw [this, hr10]; rfl
        generalize hcr : cross22 ⟨lx, ly, lz⟩ ⟨hx, hy, hz⟩ ⟨ox, oy, oz⟩ ⟨dx, dy, dz⟩ = cr at *
        generalize mayP ⟨lx, ly, lz⟩ ⟨1, 0, 0⟩ = m1 at *
        generalize mayP ⟨hx, hy, hz⟩ ⟨1, 0, 0⟩ = m2 at *
        generalize mayP ⟨ox, oy, oz⟩ ⟨dx, dy, dz⟩ = MP at *
        simp only [P3.c] at *
        clear hch next hnode cH hP9 cM1 hnd
        rcases h3 with h3 | ⟨h3, hc1⟩ | ⟨h3, hc1, hM1, hM2⟩
        all_goals
          repeat (first | (show Walk1 _ _ _ (_ :: _) _ _; first | (show Walk1 _ _ _ (⟨_, _, _, _, _, some _⟩ :: _) _ _; first | refine zy1 ?_ | refine zn1 ?_) | (show HW1 (.move _); first | refine wz40 ?_ | refine wz1 ?_) | (show HW1 (.assign _); refine wz2 ?_) | (show HW1 (.binOp .lss _ _ _ _); refine wz5 ?_) | (show HW1 (.binOp .geq _ _ _ _); refine wz70 ?_) | (show HW1 (.binOp .eql _ _ _ _); refine wz30 ?_) | (show HW1 (.pick _ _ _); first | refine wz8 ?_ | refine wz7 ?_) | (show HW1 (.unOp _ _ _); refine wz19 ?_) | (show HW1 (.indexAddr _ _ _); refine wz26 ?_) | (show HW1 (.load _ _); first | refine wz3 ?_ | refine wz31 ?_ | refine wz51 ?_) | (show HW1 (.store _ _ _); refine wz14 ?_) | (show HW1 (.alloc _); refine wz6 ?_) | (show HW1 (.fieldAddr _ _ _); first | refine wz4 ?_ | refine walk1_t (op_fldF rfl rfl rfl rfl rva (by omega) rfl rfl off_zero) ?_) | (show HW1 (.call ⟨.builtin .len, _, _⟩); refine wz121 ?_) | (show HW1 (.buildSlice _ _ _); refine wz123 ?_) | (show HW1 (.call ⟨.value (.func 11), _, _⟩); ((first | refine cwalk11 11 ?_ | refine cwalk10 11 ?_); refine ⟨_, fun e w => cX1 w, ?_⟩)) | (show HW1 (.call ⟨.value (.func 12), _, _⟩); ((first | refine cwalk11 12 ?_ | refine cwalk10 12 ?_); refine ⟨_, fun e w => cMd w, ?_⟩))) | refine go1 ?_ | refine end_block_other rfl ?_ | refine end_scope (fun _ h => by cases h) ?_ | (refine walk_endD ?_ ?_; (· kernel_rfl)) | refine tri_yesA rfl ?_ | refine tri_noA rfl ?_ | refine tri_trueA rfl ?_ | refine tri_falseA rfl ?_)
          refine tri_loop (X := Nat) (fun k => ⟨[(69, SV.c (.int .i64 ((k : Nat) : Int))), (68, SV.c (.int .i64 ((2 : Nat) : Int))), (67, .s 67 0 2 2), (9, .c (.bool cr)), (8, .p 8 0), (33, SV.c (.int .i64 ((i : Nat) : Int))), (32, SV.c (.int .i64 ((NN.length : Nat) : Int))), (31, .c v1), (0, .c u), (3, .c (ptrV (blkV b3) 0)), (4, .c (.bool false)), (5, .c (ptrV (blkV b5) 0))], [(67, some (.blk 67 3 (SA.l [SV.c (.int .i64 (L : Int)), SV.c (.int .i64 (R : Int))]))), (8, some (.blk 8 37 (.c #[.int .i64 lx, .int .i64 ly, .int .i64 lz, .int .i64 hx, .int .i64 hy, .int .i64 hz, .int .i64 (L : Int), .int .i64 (R : Int), .int .i64 0, .int .i64 0])))]⟩)
            (fun k => k ≤ 2) (fun k => 2 - k) 0 (by omega) (by exact ent_kp) ?_
          intro k hk K2 next2
          have nx2 := fun S' => next2 S' (k + 1)
          by_cases h2 : k < 2
          · obtain ⟨q, hq, hqk⟩ : ∃ q : Nat, (q = L ∨ q = R) ∧ ((k = 0 ∧ q = L) ∨ (k = 1 ∧ q = R)) := by
              obtain h0 | h0 : k = 0 ∨ k = 1 := by omega
              · exact ⟨L, .inl rfl, .inl ⟨h0, rfl⟩⟩
              · exact ⟨R, .inr rfl, .inr ⟨h0, rfl⟩⟩
            obtain ⟨c, hql, q1, q2, h4⟩ := step q hq
            have cX2 := fun w => cX c w
            have ql : 0 + q * 10 + 10 ≤ NC.length := by omega
            obtain ⟨⟨ax, ay, az⟩, ⟨bx, by', bz⟩, _, _, _, _⟩ := c
            dsimp only [P3.c] at q1 q2 cX2 h4
            generalize cross22 ⟨ax, ay, az⟩ ⟨bx, by', bz⟩ ⟨ox, oy, oz⟩ ⟨dx, dy, dz⟩ = cK at *
            clear next2 step cX nx hrow
            unfold Four at h4
            rcases hqk with ⟨rfl, rfl⟩ | ⟨rfl, rfl⟩
            all_goals
              rcases h4 with h4 | ⟨h4, h5, h8⟩ | ⟨h4, h5, h8, h6⟩ | ⟨h4, h5, h8, h6, h7⟩
              all_goals
                repeat (first | (show Walk1 _ _ _ (_ :: _) _ _; first | (show HW1 (.move _); refine wz1 ?_) | (show HW1 (.assign _); refine wz2 ?_) | (show HW1 (.binOp .add _ _ _ _); refine wz10 ?_) | (show HW1 (.binOp .lss _ _ _ _); refine wz5 ?_) | (show HW1 (.indexAddr _ _ _); refine walk1_t (op_idxS rfl rfl rfl rfl evk rfl rfl (by first | omega | decide) off_one) ?_) | (show HW1 (.load _ _); refine wz3 ?_)) | (show WalkTo _ _ _ _ (_ :: _) _ _ _; first | (show WalkTo _ _ _ _ (⟨_, _, _, _, _, some _⟩ :: _) _ _ _; first | refine zy2 ?_ | refine zn2 ?_) | (show HW2 (.move _); refine wz20 ?_) | (show HW2 (.binOp .geq _ _ _ _); refine walk_t (op_geN rfl rfl rfl evn evn) ?_) | (show HW2 (.pick _ _ _); first | refine wz90 ?_ | refine wz91 ?_) | (show HW2 (.unOp _ _ _); refine wz77 ?_) | (show HW2 (.indexAddr _ _ _); refine wz45 ?_) | (show HW2 (.load _ _); first | refine walk_t (op_loadF rfl rfl rfl rfl rfl rfl rfl rva (by omega) (by assumption)) ?_ | refine wz130 ?_ | refine wz58 ?_) | (show HW2 (.fieldAddr _ _ _); first | refine wz49 ?_ | refine walk_t (op_fldF rfl rfl rfl rfl rva (by omega) rfl rfl off_zero) ?_ | refine wz62 ?_) | (show HW2 (.build _ _); refine walk_t (op_buildS rfl rfl rfl rfl) ?_) | (show HW2 (.call ⟨.builtin .len, _, _⟩); refine wz134 ?_) | (show HW2 (.call ⟨.value (.func 11), _, _⟩); ((first | refine cwalk1 11 ?_ | refine cwalk0 11 ?_); refine ⟨_, fun e w => cX2 w, ?_⟩)) | (show HW2 (.call ⟨.value (.func 12), _, _⟩); ((first | refine cwalk1 12 ?_ | refine cwalk0 12 ?_); refine ⟨_, fun e w => cMl w, ?_⟩)) | (show HW2 (.call ⟨.value (.func 12), _, _⟩); ((first | refine cwalk1 12 ?_ | refine cwalk0 12 ?_); refine ⟨_, fun e w => cMh w, ?_⟩))) | refine go1 ?_ | refine end_block_other rfl ?_ | refine end_scope (fun _ h => by cases h) ?_ | (refine walk_endD ?_ ?_; (· kernel_rfl)) | refine tri_yesA rfl ?_ | refine tri_noA rfl ?_ | refine tri_trueA rfl ?_ | refine tri_falseA rfl ?_)
                exact nx2 _ (by omega) (by omega) (by exact ent_kp)
          · obtain rfl : k = 2 := by omega
            repeat (first | (show Walk1 _ _ _ (_ :: _) _ _; first | (show HW1 (.move _); refine wz1 ?_) | (show HW1 (.binOp .add _ _ _ _); refine wz10 ?_) | (show HW1 (.binOp .lss _ _ _ _); refine wz5 ?_)) | refine go1 ?_ | refine end_block_other rfl ?_ | refine end_scope (fun _ h => by cases h) ?_ | (refine walk_endD ?_ ?_; (· kernel_rfl)) | refine tri_yesA rfl ?_ | refine tri_noA rfl ?_ | refine tri_trueA rfl ?_ | refine tri_falseA rfl ?_)
            exact nx _ (by omega) (by omega) (by exact ent_kp)
      · obtain ⟨⟨lx, ly, lz⟩, ⟨hx, hy, hz⟩, le, ri, fi, co⟩ := nd
        dsimp only at eL eF eC hch cX1 cMl cMh h3
        subst eL eF eC
        rw [show nodeC ⟨⟨lx, ly, lz⟩, ⟨hx, hy, hz⟩, -1, ri, (f : Int), (c : Int)⟩ = [.int .i64 lx, .int .i64 ly, .int .i64 lz, .int .i64 hx, .int .i64 hy, .int .i64 hz, .int .i64 (-1), .int .i64 ri, .int .i64 (f : Int), .int .i64 (c : Int)] from rfl] at hrow
        obtain ⟨LK, hLK⟩ : ∃ LK, LK = (KK.drop f).take c := ⟨_, rfl⟩
        rw [← hLK] at hch
        have hLl : LK.length = c := by rw [hLK, List.length_take, List.length_drop]; omega
        have hcut : FS w1 1 (cutV v2 f c) c (ordC LK) := by
          have := r2.cut (lo := f) (len := c) hfc
          rw [hLK]
          rw [← hKC] at this
          unfold ordC at this ⊢
          rw [List.map_take, List.map_drop]
          exact this
        have step : ∀ j, j < c → ∃ (k : Nat) (t : TriS), (ordC LK)[j]? = some (.int .i64 ((k : Nat) : Int)) ∧ k < dn ∧ (XS.drop (0 + k * 19 + 0)).take 9 = (P9 t.p0 t.p1 t.p2).toList ∧ Four (hitM ⟨ox, oy, oz⟩ ⟨dx, dy, dz⟩ t.p0 t.p1 t.p2).2 (cross22 ⟨lx, ly, lz⟩ ⟨hx, hy, hz⟩ ⟨ox, oy, oz⟩ ⟨dx, dy, dz⟩) (mayP ⟨lx, ly, lz⟩ ⟨1, 0, 0⟩) (mayP ⟨hx, hy, hz⟩ ⟨1, 0, 0⟩) := by
          intro j hj
          obtain ⟨k, hk⟩ : ∃ k, LK[j]? = some k := ⟨_, List.getElem?_eq_getElem (by omega)⟩
          obtain ⟨t, ht, hs⟩ := hch k (List.mem_of_getElem? hk)
          refine ⟨k, t, ?_, by rw [← hdn]; exact (List.getElem?_eq_some_iff.1 ht).1, ?_, fourB_of hitM_may hs⟩
          · unfold ordC
            rw [List.getElem?_map, hk]
            rfl
          · rw [Nat.zero_add, Nat.add_zero]
            exact hP9 k t ht
        obtain ⟨_, a3, c3, hcz, _⟩ := hcut.rd
        rw [hcz] at hcut
        have hms : ∀ m : M4, m.c.size = 4 := fun _ => rfl
        have hmo : ∀ m : M4, m.c.all (·.oneCell') = true := fun m => by simp [M4.c]; exact ⟨rfl, rfl, rfl, rfl⟩
        have cH9 := fun (t : TriS) w => cH t w
        generalize hcr : cross22 ⟨lx, ly, lz⟩ ⟨hx, hy, hz⟩ ⟨ox, oy, oz⟩ ⟨dx, dy, dz⟩ = cr at *
        generalize mayP ⟨lx, ly, lz⟩ ⟨1, 0, 0⟩ = m1 at *
        generalize mayP ⟨hx, hy, hz⟩ ⟨1, 0, 0⟩ = m2 at *
        generalize mayP ⟨ox, oy, oz⟩ ⟨dx, dy, dz⟩ = MP at *
        simp only [P3.c] at *
        clear hch next hnode hP9 cM1 hnd cX
        generalize ordC LK = OK at *
        rcases h3 with h3 | ⟨h3, hc1⟩ | ⟨h3, hc1, hM1, hM2⟩
        all_goals
          repeat (first | (show Walk1 _ _ _ (_ :: _) _ _; first | (show Walk1 _ _ _ (⟨_, _, _, _, _, some _⟩ :: _) _ _; first | refine zy1 ?_ | refine zn1 ?_) | (show HW1 (.move _); first | refine wz40 ?_ | refine wz1 ?_) | (show HW1 (.assign _); refine wz2 ?_) | (show HW1 (.binOp .add _ _ _ _); refine wz10 ?_) | (show HW1 (.binOp .sub _ _ _ _); refine wz35 ?_) | (show HW1 (.binOp .lss _ _ _ _); refine wz5 ?_) | (show HW1 (.binOp .gtr _ _ _ _); refine wz33 ?_) | (show HW1 (.binOp .geq _ _ _ _); refine wz71 ?_) | (show HW1 (.binOp .eql _ _ _ _); refine wz30 ?_) | (show HW1 (.pick _ _ _); first | refine wz8 ?_ | refine wz7 ?_) | (show HW1 (.unOp _ _ _); refine wz19 ?_) | (show HW1 (.indexAddr _ _ _); refine wz26 ?_) | (show HW1 (.load _ _); first | refine wz3 ?_ | refine wz44 ?_ | refine wz31 ?_ | refine wz51 ?_) | (show HW1 (.store _ _ _); refine wz14 ?_) | (show HW1 (.alloc _); refine wz6 ?_) | (show HW1 (.fieldAddr _ _ _); first | refine wz4 ?_ | refine walk1_t (op_fldF rfl rfl rfl rfl rva (by omega) rfl rfl off_zero) ?_) | (show HW1 (.call ⟨.builtin .len, _, _⟩); refine wz27 ?_) | (show HW1 (.slice _ _ _ _ _); refine walk1_t (op_cutF rfl rfl rfl rfl rfl rfl) ?_) | (show HW1 (.call ⟨.value (.func 11), _, _⟩); ((first | refine cwalk11 11 ?_ | refine cwalk10 11 ?_); refine ⟨_, fun e w => cX1 w, ?_⟩)) | (show HW1 (.call ⟨.value (.func 12), _, _⟩); ((first | refine cwalk11 12 ?_ | refine cwalk10 12 ?_); refine ⟨_, fun e w => cMd w, ?_⟩))) | refine go1 ?_ | refine end_block_other rfl ?_ | refine end_scope (fun _ h => by cases h) ?_ | (refine walk_endD ?_ ?_; (· kernel_rfl)) | refine tri_yesA rfl ?_ | refine tri_noA rfl ?_ | refine tri_trueA rfl ?_ | refine tri_falseA rfl ?_)
          rw [Nat.add_sub_cancel_left, hcz]
          refine tri_loop (X := Nat) (fun k => ⟨[(144, SV.c (.int .i64 ((k : Nat) : Int))), (143, SV.c (.int .i64 ((c : Nat) : Int))), (142, .c (.slice a3 c c3)), (9, .c (.bool cr)), (8, .p 8 0), (33, SV.c (.int .i64 ((i : Nat) : Int))), (32, SV.c (.int .i64 ((NN.length : Nat) : Int))), (31, .c v1), (0, .c u), (3, .c (ptrV (blkV b3) 0)), (4, .c (.bool false)), (5, .c (ptrV (blkV b5) 0))], [(8, some (.blk 8 37 (.c #[.int .i64 lx, .int .i64 ly, .int .i64 lz, .int .i64 hx, .int .i64 hy, .int .i64 hz, .int .i64 (-1), .int .i64 ri, .int .i64 (f : Int), .int .i64 (c : Int)])))]⟩)
            (fun k => k ≤ c) (fun k => c - k) 0 (by omega) (by exact ent_kp) ?_
          intro j hj K2 next2
          have nx2 := fun S' => next2 S' (j + 1)
          by_cases h2 : j < c
          · obtain ⟨k, t, q0, q1, q2, h4⟩ := step j h2
            have cH2 := fun w => cH t w
            have ql : 0 + k * 19 + 19 ≤ XS.length := by omega
            rw [show (P9 t.p0 t.p1 t.p2) = (P9 t.p0 t.p1 t.p2).toList.toArray from rfl] at cH2
            generalize (P9 t.p0 t.p1 t.p2).toList = PL at *
            generalize hitM ⟨ox, oy, oz⟩ ⟨dx, dy, dz⟩ t.p0 t.p1 t.p2 = HM at *
            obtain ⟨hm, is⟩ := HM
            dsimp only at cH2 h4
            have hms1 := hms hm
            have hmo1 := hmo hm
            generalize hm.c = MC at *
            clear next2 step nx hrow hms hmo cH cH9
            unfold Four at h4
            rcases h4 with h4 | ⟨h4, h5, h8⟩ | ⟨h4, h5, h8, h6⟩ | ⟨h4, h5, h8, h6, h7⟩
            all_goals
              repeat (first | (show Walk1 _ _ _ (_ :: _) _ _; first | (show Walk1 _ _ _ (⟨_, _, _, _, _, some _⟩ :: _) _ _; first | refine zy1 ?_ | refine zn1 ?_) | (show HW1 (.move _); refine wz1 ?_) | (show HW1 (.assign _); refine wz2 ?_) | (show HW1 (.binOp .add _ _ _ _); refine wz10 ?_) | (show HW1 (.binOp .lss _ _ _ _); refine wz5 ?_) | (show HW1 (.pick _ _ _); first | refine wz8 ?_ | refine wz7 ?_) | (show HW1 (.unOp _ _ _); refine wz19 ?_) | (show HW1 (.indexAddr _ _ _); refine wz80 ?_) | (show HW1 (.load _ _); first | refine wz44 ?_ | refine wz31 ?_) | (show HW1 (.fieldAddr _ _ _); refine wz4 ?_) | (show HW1 (.build _ _); refine wz25 ?_) | (show HW1 (.call ⟨.value (.func 12), _, _⟩); ((first | refine cwalk11 12 ?_ | refine cwalk10 12 ?_); refine ⟨_, fun e w => cMl w, ?_⟩)) | (show HW1 (.call ⟨.value (.func 12), _, _⟩); ((first | refine cwalk11 12 ?_ | refine cwalk10 12 ?_); refine ⟨_, fun e w => cMh w, ?_⟩))) | (show WalkTo _ _ _ _ (_ :: _) _ _ _; first | (show HW2 (.move _); refine wz20 ?_) | (show HW2 (.assign _); refine wz17 ?_) | (show HW2 (.indexAddr _ _ _); refine wz45 ?_) | (show HW2 (.load _ _); refine wz58 ?_) | (show HW2 (.store _ _ _); refine wz36 ?_) | (show HW2 (.alloc _); refine wz43 ?_) | (show HW2 (.fieldAddr _ _ _); first | refine walk_t (op_fldF rfl rfl rfl rfl rva (by omega) rfl rfl off_zero) ?_ | refine wz62 ?_) | (show HW2 (.extract _ _); first | refine wz60 ?_ | refine wz59 ?_) | (show HW2 (.call ⟨.value (.func 13), _, _⟩); ((first | refine cwalk1 13 ?_ | refine cwalk0 13 ?_); refine ⟨_, fun e w => cH2 w, ?_⟩))) | refine go1 ?_ | refine end_block_other rfl ?_ | refine end_scope (fun _ h => by cases h) ?_ | (refine walk_endD ?_ ?_; (· kernel_rfl)) | refine tri_yesA rfl ?_ | refine tri_noA rfl ?_ | refine tri_trueA rfl ?_ | refine tri_falseA rfl ?_)
              exact nx2 _ (by omega) (by omega) (by exact ent_kp)
          · obtain rfl : j = c := by omega
            repeat (first | (show Walk1 _ _ _ (_ :: _) _ _; first | (show HW1 (.move _); refine wz1 ?_) | (show HW1 (.binOp .add _ _ _ _); refine wz10 ?_) | (show HW1 (.binOp .lss _ _ _ _); refine wz5 ?_)) | refine go1 ?_ | refine end_block_other rfl ?_ | refine end_scope (fun _ h => by cases h) ?_ | (refine walk_endD ?_ ?_; (· kernel_rfl)) | refine tri_yesA rfl ?_ | refine tri_noA rfl ?_ | refine tri_trueA rfl ?_ | refine tri_falseA rfl ?_)
            exact nx _ (by omega) (by omega) (by exact ent_kp)
    · obtain rfl : i = NN.length := by omega
      clear next cX cM1 hnode hP9 cH cMd
      repeat (first | (show Walk1 _ _ _ (_ :: _) _ _; first | (show HW1 (.assign _); refine wz2 ?_) | (show HW1 (.binOp .lss _ _ _ _); refine wz5 ?_) | (show HW1 (.call ⟨.value (.func 10), _, _⟩); ((first | refine cwalk11 10 ?_ | refine cwalk10 10 ?_); refine ⟨_, fun e w => cw w, ?_⟩))) | refine go1 ?_ | refine end_block_other rfl ?_ | refine end_scope (fun _ h => by cases h) ?_ | (refine walk_endD ?_ ?_; (· kernel_rfl)) | refine tri_yesA rfl ?_ | refine tri_noA rfl ?_ | refine tri_trueA rfl ?_ | refine tri_falseA rfl ?_)
      refine end_ret (.c (.bool true)) (res_tmp rfl rfl) ?_
      exact fin_anew hb fun _ => rfl
end Go.Proofs.Ytcookaiakfbdiaa
