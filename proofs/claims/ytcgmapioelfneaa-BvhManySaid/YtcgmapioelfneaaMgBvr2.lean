/- Chapter 21's example: walked. No condition. The law BvhMany: what it makes. No condition. The law BvhMany: walked. No condition. -/
import Derived.Test.YtcgmapioelfneaaMgWkJ
import Derived.Test.YtcgmapioelfneaaMgSymY
namespace Go.Proofs.Ytcgmapioelfneaa
open Go.RowKit
set_option maxRecDepth 100000
set_option maxHeartbeats 2000000
theorem apart_ok : ∀ t ∈ apartL, t.ok := fun t ht => by
  obtain ⟨i, _, rfl⟩ := List.mem_map.1 ht
  exact ⟨rfl, fun u hu => by obtain ⟨_, rfl⟩ := List.mem_replicate.1 hu; rfl⟩
theorem apart_far : ∀ t ∈ apartL, farT t = false := by decide +kernel
theorem apart_5 : 3 ≤ (treeL apartL).1.length := Nat.le_of_ble_eq_true (by kernel_rfl)
theorem apart_4 : (treeL (apartL.take 4)).1.length = 1 := by kernel_rfl
theorem apart_l : (leavesL (treeL (apartL.take 4)).1 (treeL (apartL.take 4)).1.length).length = 1 := by kernel_rfl
theorem apart_len : apartL.length = 5 := by kernel_rfl
theorem apart_tk : (trisC apartL).take (4 * 19) = trisC (apartL.take 4) := by kernel_rfl
attribute [local irreducible] Calls Walk1 WalkTo Tri EndA
theorem works21_any (w : World) : Calls Try.prog 9 #[] w fun e w' => e = .returned (.bool true) ∧ Below w.heap.size w w' := by
  have ok4 : ∀ t ∈ apartL.take 4, t.ok := fun t h => apart_ok t (List.mem_of_mem_take h)
  have far4 : ∀ t ∈ apartL.take 4, farT t = false := fun t h => apart_far t (List.mem_of_mem_take h)
  have len4 : (apartL.take 4).length = 4 := by rw [List.length_take, apart_len]; rfl
  have cB1 := fun w v h => build_any apartL apart_ok (by rw [apart_len]; omega) (by rw [apart_len]; omega) apart_far v w h
  have cB2 := fun w v h => build_any (apartL.take 4) ok4 (by rw [len4]; omega) (by rw [len4]; omega) far4 v w h
  obtain ⟨M1, D1, hS1⟩ := sound_of apartL (fun t ht => near_of (apart_far t ht)) (by rw [apart_len]; omega)
  obtain ⟨M2, D2, hS2⟩ := sound_of (apartL.take 4) (fun t ht => near_of (far4 t ht)) (by rw [len4]; omega)
  have hN1 := apart_5
  have hN2 := apart_4
  have cS := fun v1 v2 vl w h1 h2 h3 => soundB_any apart_ok hS1 (by rw [apart_len]; omega) (by rw [apart_len]; omega) v1 v2 vl w h1 h2 h3
  have cL := fun v1 v2 w h1 => leaves_any hS2 (by rw [hN2]; omega) v1 v2 w h1
  rw [apart_l] at cL
  have cA := apart_any
  rw [apart_len] at cB1 cS
  rw [len4, ← apart_tk] at cB2
  rw [hN2] at cB2 cL
  generalize (treeL apartL).1.length = n1 at *
  generalize nodesC (treeL apartL).1 = NC1 at *
  generalize (treeL apartL).2.length = k1 at *
  generalize ordC (treeL apartL).2 = KC1 at *
  generalize nodesC (treeL (apartL.take 4)).1 = NC2 at *
  generalize (treeL (apartL.take 4)).2.length = k2 at *
  generalize ordC (treeL (apartL.take 4)).2 = KC2 at *
  generalize leavesL (treeL (apartL.take 4)).1 1 = LL at *
  generalize trisC apartL = TC at *
  clear hS1 hS2 ok4 far4 len4 hN2
  refine calls_tri Try.func9 rfl Try.ntmps9 rfl ?_
  repeat (first | (show Walk1 _ _ _ (_ :: _) _ _; first | (show HW1 (.assign _); refine wz2 ?_) | (show HW1 (.call ⟨.value (.func 19), _, _⟩); (refine walk1_callO rfl rfl rfl rfl (by kernel_rfl) evq rfl ?_; refine ⟨_, _, _, _, _, callO_0  (fun e w  => cA w), ?_⟩))) | refine go1 ?_ | refine end_block_other rfl ?_ | refine end_scope (fun _ h => by cases h) ?_ | (refine walk_endD ?_ ?_; (· kernel_rfl)) | refine tri_yesA rfl ?_ | refine tri_noA rfl ?_ | refine tri_trueA rfl ?_ | refine tri_falseA rfl ?_)
  refine walk1_callB (rb := [6]) (vs := [.v 6]) 901 902 rfl rfl rfl rfl evq rfl rfl (by kernel_rfl) (fun S' e a w' hS hq => cB1 w' _ ((rdn_own (n := 6) rfl) S' e a w' hq hS)) ?_
  repeat (first | (show Walk1 _ _ _ (_ :: _) _ _; first | (show HW1 (.move _); refine wz1 ?_) | (show HW1 (.alloc _); refine wz6 ?_) | (show HW1 (.extract _ _); refine wz84 ?_)) | refine go1 ?_ | refine end_block_other rfl ?_ | refine end_scope (fun _ h => by cases h) ?_ | (refine walk_endD ?_ ?_; (· kernel_rfl)) | refine tri_yesA rfl ?_ | refine tri_noA rfl ?_ | refine tri_trueA rfl ?_ | refine tri_falseA rfl ?_)
  refine walk1_b (op_storeB (q1 := 901) (q2 := 902) rfl rfl rfl rfl rfl (fun _ => rfl) rfl rfl rfl rfl (fun _ => rfl)) ?_
  repeat (first | (show Walk1 _ _ _ (_ :: _) _ _; first | (show HW1 (.assign _); refine wz2 ?_) | (show HW1 (.call ⟨.value (.func 19), _, _⟩); (refine walk1_callO rfl rfl rfl rfl (by kernel_rfl) evq rfl ?_; refine ⟨_, _, _, _, _, callO_0  (fun e w  => cA w), ?_⟩))) | refine go1 ?_ | refine end_block_other rfl ?_ | refine end_scope (fun _ h => by cases h) ?_ | (refine walk_endD ?_ ?_; (· kernel_rfl)) | refine tri_yesA rfl ?_ | refine tri_noA rfl ?_ | refine tri_trueA rfl ?_ | refine tri_falseA rfl ?_)
  refine walk1_t (op_cutV0 (hi := 4) rfl rfl rfl rfl rfl rfl rfl (evO_some ⟨_, rfl⟩) (by omega)) ?_
  refine walk1_callB (rb := [11]) (vs := [.sub 11 0 4]) 903 904 rfl rfl rfl rfl evq rfl rfl (by kernel_rfl) (fun S' e a w' hS hq => cB2 w' _ ((rdn_subV (n := 11) rfl (by omega)) S' e a w' hq hS)) ?_
  repeat (first | (show Walk1 _ _ _ (_ :: _) _ _; first | (show HW1 (.move _); refine wz1 ?_) | (show HW1 (.alloc _); refine wz6 ?_) | (show HW1 (.extract _ _); refine wz84 ?_)) | refine go1 ?_ | refine end_block_other rfl ?_ | refine end_scope (fun _ h => by cases h) ?_ | (refine walk_endD ?_ ?_; (· kernel_rfl)) | refine tri_yesA rfl ?_ | refine tri_noA rfl ?_ | refine tri_trueA rfl ?_ | refine tri_falseA rfl ?_)
  refine walk1_b (op_storeB (q1 := 903) (q2 := 904) rfl rfl rfl rfl rfl (fun _ => rfl) rfl rfl rfl rfl (fun _ => rfl)) ?_
  iterate 3 (try (first | (show Walk1 _ _ _ (_ :: _) _ _; (show HW1 (.assign _); refine wz2 ?_)) | refine go1 ?_ | refine end_block_other rfl ?_ | refine end_scope (fun _ h => by cases h) ?_ | (refine walk_endD ?_ ?_; (· kernel_rfl)) | refine tri_yesA rfl ?_ | refine tri_noA rfl ?_ | refine tri_trueA rfl ?_ | refine tri_falseA rfl ?_))
  refine tri_close rfl fun e w1 hb hr => ?_
  have r1 := fs_ownN (hr 901 _ rfl)
  have r2 := fs_ownN (hr 902 _ rfl)
  have r3 := fs_ownN (hr 903 _ rfl)
  have r4 : FS w1 2 (blkV (e 1).b) 1 [(e 901).v, (e 902).v] := fs_blkN (hr 1 _ rfl) rfl
  have r5 : FS w1 2 (blkV (e 3).b) 1 [(e 903).v, (e 904).v] := fs_blkN (hr 3 _ rfl) rfl
  refine tri_keep [(1, .c (ptrV (blkV (e 1).b) 0)), (2, .c (.int .i64 0)), (3, .c (ptrV (blkV (e 3).b) 0)), (4, .c (.int .i64 0))] [] (by repeat (first | exact hasT_nil | refine hasT_cons rfl ?_ | refine hasT_eq rfl (svi (by omega)) ?_)) (by exact hasR_nil) ?_
  clear hr
  generalize (e 901).v = v1 at *
  generalize (e 902).v = v2 at *
  generalize (e 903).v = v3 at *
  generalize (e 904).v = v4 at *
  generalize (e 1).b = b1 at *
  generalize (e 3).b = b3 at *
  obtain ⟨A1, hA1⟩ : ∃ A, A = [v1, v2] := ⟨_, rfl⟩
  obtain ⟨A2, hA2⟩ : ∃ A, A = [v3, v4] := ⟨_, rfl⟩
  rw [← hA1] at r4
  rw [← hA2] at r5
  have p0 : A1[0]? = some v1 := by rw [hA1]; rfl
  have p1 : A2[0]? = some v3 := by rw [hA2]; rfl
  have p2 : (A1.drop 0).take 2 = [v1, v2] := by rw [hA1]; rfl
  have p3 : (A2.drop 0).take 2 = [v3, v4] := by rw [hA2]; rfl
  have p4 : A1.length = 2 := by rw [hA1]; rfl
  have p5 : A2.length = 2 := by rw [hA2]; rfl
  clear hA1 hA2
  have hbw := hb
  clear hb
  repeat (first | (show WalkTo _ _ _ _ (_ :: _) _ _ _; first | (show WalkTo _ _ _ _ (⟨_, _, _, _, _, some _⟩ :: _) _ _ _; refine zy2 ?_) | (show HW2 (.move _); refine wz20 ?_) | (show HW2 (.assign _); refine wz17 ?_) | (show HW2 (.binOp .geq _ _ _ _); refine walk_t (op_geN rfl rfl rfl evn evn) ?_) | (show HW2 (.binOp .eql _ _ _ _); refine walk_t (op_eqN rfl rfl rfl evn evn) ?_) | (show HW2 (.pick _ _ _); refine wz90 ?_) | (show HW2 (.load _ _); first | refine walk_t (op_loadF rfl rfl rfl rfl rfl rfl rfl rva (by omega) (by assumption)) ?_ | refine wz58 ?_) | (show HW2 (.fieldAddr _ _ _); refine walk_t (op_fldF rfl rfl rfl rfl rva (by omega) rfl rfl off_zero) ?_) | (show HW2 (.call ⟨.builtin .len, _, _⟩); first | refine wz133 ?_ | refine wz134 ?_) | (show HW2 (.call ⟨.value (.func 19), _, _⟩); (refine walk_callO rfl rfl rfl rfl (by kernel_rfl) evq rfl ?_; refine ⟨_, _, _, _, _, callO_0  (fun e w  => cA w), ?_⟩)) | (show HW2 (.call ⟨.value (.func 15), _, _⟩); (refine cwalkM 15 ?_; refine ⟨[26], _, (fun S2 e a w hS hq => cS v1 v2 _ w (r1.anew (by omega) (hS.frame.below rfl)) (r2.anew (by omega) (hS.frame.below rfl)) (fs_ownN (hS.res 26 (.own 26 37 19 5 TC) ((hq 26 (by simp)).trans rfl)))), ?_⟩)) | (show HW2 (.call ⟨.value (.func 14), _, _⟩); (refine walk_callO rfl rfl rfl rfl (by kernel_rfl) evq rfl ?_; refine ⟨_, _, _, _, _, callO_1 (rdn_old r3.rd (by omega) rfl) (fun e w h1 => cL _ _ w ⟨h1, r3.2⟩), ?_⟩))) | refine go1 ?_ | refine end_block_other rfl ?_ | refine end_scope (fun _ h => by cases h) ?_ | (refine walk_endD ?_ ?_; (· kernel_rfl)) | refine tri_yesA rfl ?_ | refine tri_noA rfl ?_ | refine tri_trueA rfl ?_ | refine tri_falseA rfl ?_)
  trace_state
  refine end_ret (.c (.bool true)) (res_tmp rfl rfl) ?_
  exact fin_anew hbw fun _ => rfl
end Go.Proofs.Ytcgmapioelfneaa
namespace Go.Proofs.Ytcgmapioelfneaa
open Go.RowKit
set_option maxRecDepth 100000
set_option maxHeartbeats 2000000
section
variable {C : Ctx} {ops : Array Oper} {S : St} {o : Oper}
theorem op_storeVZ {x y : Operand} {t : TypeId} {n off len sz : Nat} {T0 : TypeId} {xs ys : List Value} {v : SV} {u : Value} (ho : o.op = .store t x y) (hg : o.guard = none) (hdst : o.dst = none) (hx : S.ev x = some (.vp n off)) (hy : S.ev y = some v) (hr : S.res n = some (.own n T0 sz len xs)) (hi' : tabLook sizT t = some 1) (hv : v = .c u) (h1c : u.oneCell' = true) (hoff : off < len * sz) (hys : xs.set off u = ys) :
    OpG C Try.prog ops o S ⟨opT x ++ opT y, [n], [], [(n, some (.own n T0 sz len ys))], []⟩ := by
  have hi := tabAll_look sizT_ok hi'
  subst hv hys
  refine opG_mk hg fun S' h1 h2 h3 e a w hS => ?_
  have hr' := (h2 n (by simp)).trans hr
  have hok : w.ownsRow 0 T0 sz (e n).v len xs := hS.res n _ hr'
  have hxl : xs.length = len * sz := hok.1
  rcases hok.2 with ⟨_, h0⟩ | ⟨g, cap, cur, hev, _, hb, hnc, hcm, hcs, htk⟩
  · subst h0; rw [Nat.zero_mul] at *; exact absurd hoff (Nat.not_lt_zero _)
  have hle : len * sz ≤ cap * sz := Nat.mul_le_mul_right _ hnc
  have hevx : a.eval x = .pointer (some ⟨g, off, none⟩) := by
    rw [hS.ev ((ev_like h1 fun _ h => List.mem_append_left _ h).trans hx)]
    show (match (e n).v with | .slice (some a) _ _ => Value.pointer (some ⟨a.block, off, none⟩) | _ => undef) = _
    rw [hev]
  have hevy : a.eval y = u := hS.ev ((ev_like h1 fun _ h => List.mem_append_right _ h).trans hy)
  have hok2 := hok
  rw [hev] at hok2
  obtain ⟨hst, hgr⟩ := hok2.stored off u
  have hc : w.cell? ⟨g, off, none⟩ = some (cur[off]'(by omega)) := (cell_of_row w _ off _ _ _ hb).trans (by simp)
  have hf : w.frozen? ⟨g, off, none⟩ = false := frozen_of_row w _ off _ _ hb
  have hcells : u.cells = #[u] := by cases hh : u <;> rw [hh] at h1c <;> first | rfl | (simp [Value.oneCell'] at h1c)
  have hmine : ∀ b, (e n).v.ownBlock = some b → C.mine b := fun b hb => hS.mine n _ hr' rfl b hb
  have hg0 : (e n).v.ownBlock = some g := by rw [hev]; rfl
  refine wp_skip' (w' := w.setCell ⟨g, off, none⟩ u) ?_ ⟨e, ?_⟩
  · cases hq : Try.prog.info? t with
    | none => simp [hq] at hi
    | some i =>
      have hs : i.size = 1 := by simpa [hq] using hi
      simp [execOp, ho, hevx, hevy, Instr.storeAt, Instr.sureAddr, storeVar, sizeOf, typeInfo, hq, hs, hcells, storeCells, run_store Try.prog _ _ _ _ h1c, hc, hf, Addr.add]
  · rw [hdst]
    refine ⟨hS.defers, hS.size, hS.tmp, fun m r h => ?_, fun m r h hw b hb => ?_, fun m k r r' h h' hne hw b hb => ?_, ⟨hS.frame.os, hS.frame.tape, hS.frame.output, by simpa [World.setCell] using hS.frame.size, fun k hk hkm => ?_⟩⟩
    · have h : (St.mk S'.t ((n, some (.own n T0 sz len (xs.set off u))) :: S'.h)).res m = some r := h
      rw [St.res_cons] at h
      split at h
      · cases h
        show (w.setCell ⟨g, off, none⟩ u).ownsRow 0 T0 sz (e n).v len (xs.set off u)
        rw [hev]; exact hst
      · rename_i hne
        refine r.loc e w _ (fun b hfb => Below.heap_setCell w _ _ b fun he => ?_) (hS.res m r h)
        have he : b = g := he
        subst he
        exact hS.sep n m _ r hr' h hne rfl b hg0 hfb
    · have h : (St.mk S'.t ((n, some (.own n T0 sz len (xs.set off u))) :: S'.h)).res m = some r := h
      rw [St.res_cons] at h
      split at h
      · cases h; exact hmine b hb
      · exact hS.mine m r h hw b hb
    · have h : (St.mk S'.t ((n, some (.own n T0 sz len (xs.set off u))) :: S'.h)).res m = some r := h
      have h' : (St.mk S'.t ((n, some (.own n T0 sz len (xs.set off u))) :: S'.h)).res k = some r' := h'
      rw [St.res_cons] at h h'
      split at h
      · rename_i h1; cases h; subst h1
        split at h'
        · rename_i h2; exact absurd h2 hne
        · exact hS.sep n k _ r' hr' h' hne rfl b hb
      · split at h'
        · rename_i h2; cases h'; subst h2
          exact hS.sep m n r _ h hr' hne hw b hb
        · exact hS.sep m k r r' h h' hne hw b hb
    · refine (Below.heap_setCell w ⟨g, off, none⟩ u k fun he => ?_).trans (hS.frame.block k hk hkm)
      have he : k = g := he
      subst he
      rcases hmine k hg0 with h | h
      · omega
      · exact hkm h
theorem op_idxVA {ty : TypeId} {x y : Operand} {n off alen sz j len size : Nat} {T0 e0 : TypeId} {xs : List Value} (ho : o.op = .indexAddr ty x y) (hg : o.guard = none) (hd : dstB o.dst C.nt = true) (hx : S.ev x = some (.vp n off)) (hy : EvK S y j) (hr : S.res n = some (.own n T0 size len xs)) (hn : 0 < len) (hu' : tabLook undT ty = some (.array alen e0)) (hs' : tabLook sizT e0 = some sz) (hj : j < alen) {off' : Nat} (hoff : off + j * sz = off') :
    OpG C Try.prog ops o S ⟨opT x ++ opT y, [n], dw o.dst (.vp n off'), [], []⟩ := by
  obtain ⟨k, hy⟩ := hy
  subst hoff
  have hu := tabAll_look undT_ok hu'
  have := op_value (C := C) (P := Try.prog) (ops := ops) (S := S) hg hd [x, y] [n] (.vp n (off + j * sz)) fun S' e a w hS g1 g2 => by
    have hev : a.eval x = (SV.vp n off).den e := hS.ev ((g1 x (by simp)).trans hx)
    have hevy : a.eval y = .int k (j : Int) := hS.ev ((g1 y (by simp)).trans hy)
    have hok : w.ownsRow 0 T0 size (e n).v len xs := hS.res n _ ((g2 n (by simp)).trans hr)
    rcases hok.2 with ⟨h3, h4⟩ | ⟨g, cap, cur, h4, _⟩
    · omega
    · have hden : ∀ q, (SV.vp n q).den e = .pointer (some ⟨g, q, none⟩) := fun q => by simp only [SV.vp, h4]
      rw [hden] at hev
      rw [hden]
      have h3 : (0 : Int) ≤ (j : Int) ∧ (j : Int) < (alen : Int) := by omega
      simp only [execOp, ho, hev, hevy, Instr.indexAt, asIntOf, Sem.run_bind, run_underlying hu w, Result.andThen_ok, Sem.run_pure, Instr.sureAddr, Sem.run_ite, if_pos h3, run_sizeT hs' w, add_place, Int.toNat_natCast]
  simpa using this
end
def zPs : P3 := ⟨0, 0, 0⟩
/-- The triangle that a sweep holds where none was given. -/
def zeroT : TriS := ⟨zPs, zPs, zPs, List.replicate 9 (Value.int .i64 0), 0⟩
theorem zeroT_ok : zeroT.ok := ⟨rfl, fun u hu => by obtain ⟨_, rfl⟩ := List.mem_replicate.1 hu; rfl⟩
def zCells : Array Value := (List.replicate 18 (Value.int .i64 0) ++ [Value.int .u8 0]).toArray
theorem made_tris : ∀ room, (madeCells zCells (room * 19)).toList = trisC (List.replicate room zeroT) := by
  have hz : triC zeroT = zCells.toList := rfl
  have hzl : zCells.size = 19 := rfl
  have hl : ∀ room, (trisC (List.replicate room zeroT)).length = room * 19 := fun room => by
    rw [tris_len _ fun t ht => by obtain ⟨_, rfl⟩ := List.mem_replicate.1 ht; exact zeroT_ok, List.length_replicate]
  intro room
  refine List.ext_getElem? fun i => ?_
  by_cases hi : i < room * 19
  · have hk : (List.replicate room zeroT)[i / 19]? = some zeroT := by
      rw [List.getElem?_replicate, if_pos (by omega)]
    have hg := flat_get (List.replicate room zeroT) (f := triC) (sz := 19) (fun t ht => triC_length t (by obtain ⟨_, rfl⟩ := List.mem_replicate.1 ht; exact zeroT_ok)) (i / 19) (i % 19) zeroT hk (by omega)
    rw [show i / 19 * 19 + i % 19 = i by omega] at hg
    rw [show trisC (List.replicate room zeroT) = (List.replicate room zeroT).flatMap triC from rfl, hg, hz]
    unfold madeCells
    simp only [Array.toList_map, Array.toList_range, List.getElem?_map, List.getElem?_range hi, Option.map_some, hzl]
    have hlt : i % 19 < zCells.size := by rw [hzl]; omega
    rw [getElem!_pos zCells (i % 19) hlt]
    simp
  · rw [List.getElem?_eq_none (by simp [madeCells]; omega), List.getElem?_eq_none (by rw [hl]; omega)]
/-! ### the triangles -/
def manyT (r : Int) (i : Nat) : TriS := ⟨⟨((i : Int) * r).tmod 1000, 0, 0⟩, zPs, zPs, List.replicate 9 (Value.int .i64 0), 0⟩
def manyL (r : Int) (n j : Nat) : List TriS := (List.range n).map fun i => if i < j then manyT r i else zeroT
theorem manyL_len (r : Int) (n j : Nat) : (manyL r n j).length = n := by simp [manyL]
theorem manyL_zero (r : Int) (n : Nat) : manyL r n 0 = List.replicate n zeroT := by
  unfold manyL
  apply List.ext_getElem
  · simp
  · intro i h1 h2
    simp
theorem manyT_ok (r : Int) (i : Nat) : (manyT r i).ok := ⟨rfl, fun u hu => by obtain ⟨_, rfl⟩ := List.mem_replicate.1 hu; rfl⟩
theorem manyL_ok (r : Int) (n j : Nat) : ∀ t ∈ manyL r n j, t.ok := fun t ht => by
  obtain ⟨i, _, rfl⟩ := List.mem_map.1 ht
  split
  · exact manyT_ok r i
  · exact zeroT_ok
theorem mod1000 (a : Int) : -1000 < a.tmod 1000 ∧ a.tmod 1000 < 1000 := by
  have h1 : (a.tmod 1000).natAbs = a.natAbs % 1000 := Int.natAbs_tmod a 1000
  have h2 : a.natAbs % 1000 < 1000 := Nat.mod_lt _ (by omega)
  generalize a.tmod 1000 = b at *
  omega
theorem mod7 (a : Int) : -7 < a.tmod 7 ∧ a.tmod 7 < 7 := by
  have h1 : (a.tmod 7).natAbs = a.natAbs % 7 := Int.natAbs_tmod a 7
  have h2 : a.natAbs % 7 < 7 := Nat.mod_lt _ (by omega)
  generalize a.tmod 7 = b at *
  omega
theorem far_of {t : TriS} (h : nearT t) : farT t = false := by
  unfold nearT smB at h
  unfold farT min3 max3
  rw [Bool.or_eq_false_iff, decide_eq_false_iff_not, decide_eq_false_iff_not]
  omega
theorem manyL_far (r : Int) (n j : Nat) : ∀ t ∈ manyL r n j, farT t = false := fun t ht => by
  obtain ⟨i, _, rfl⟩ := List.mem_map.1 ht
  refine far_of ?_
  refine boxP_sm (by simp [cornersT]) fun p hp => ?_
  have hm := mod1000 ((i : Int) * r)
  split at hp
  · simp only [cornersT, manyT, zPs, List.mem_cons, List.not_mem_nil, or_false] at hp
    rcases hp with rfl | rfl | rfl <;> (unfold smB; dsimp only; omega)
  · simp only [cornersT, zeroT, zPs, List.mem_cons, List.not_mem_nil, or_false] at hp
    rcases hp with rfl | rfl | rfl <;> (unfold smB; dsimp only; omega)
theorem manyL_set (r : Int) (n j : Nat) (hj : j < n) : (trisC (manyL r n j)).set (j * 19) (.int .i64 (((j : Int) * r).tmod 1000)) = trisC (manyL r n (j + 1)) := by
  obtain ⟨A, hA⟩ : ∃ A, A = (List.range j).map (manyT r) := ⟨_, rfl⟩
  have hAl : A.length = j := by rw [hA]; simp
  have hAok : ∀ t ∈ A, t.ok := fun t ht => by
    rw [hA] at ht
    obtain ⟨i, _, rfl⟩ := List.mem_map.1 ht
    exact manyT_ok r i
  have e1 : manyL r n j = A ++ zeroT :: List.replicate (n - j - 1) zeroT := by
    apply List.ext_getElem?
    intro q
    by_cases hq : q < n
    · unfold manyL
      rw [List.getElem?_map, List.getElem?_range hq, Option.map_some]
      by_cases h1 : q < j
      · rw [if_pos h1, List.getElem?_append_left (by omega), hA, List.getElem?_map, List.getElem?_range h1]
        rfl
      · rw [if_neg h1, List.getElem?_append_right (by omega), hAl]
        rw [show zeroT :: List.replicate (n - j - 1) zeroT = List.replicate (n - j) zeroT by rw [← List.replicate_succ]; congr 1; omega]
        rw [List.getElem?_replicate, if_pos (by omega)]
    · rw [List.getElem?_eq_none (by rw [manyL_len]; omega), List.getElem?_eq_none (by simp [hAl]; omega)]
  have e2 : manyL r n (j + 1) = A ++ manyT r j :: List.replicate (n - j - 1) zeroT := by
    apply List.ext_getElem?
    intro q
    by_cases hq : q < n
    · unfold manyL
      rw [List.getElem?_map, List.getElem?_range hq, Option.map_some]
      by_cases h1 : q < j
      · rw [if_pos (by omega), List.getElem?_append_left (by omega), hA, List.getElem?_map, List.getElem?_range h1]
        rfl
      · rw [List.getElem?_append_right (by omega), hAl]
        by_cases h2 : q = j
        · subst h2
          rw [if_pos (by omega), Nat.sub_self]
          rfl
        · rw [if_neg (by omega), show q - j = (q - j - 1) + 1 by omega, List.getElem?_cons_succ, List.getElem?_replicate, if_pos (by omega)]
    · rw [List.getElem?_eq_none (by rw [manyL_len]; omega), List.getElem?_eq_none (by simp [hAl]; omega)]
  have hl : (trisC A).length = j * 19 := by rw [tris_len A hAok, hAl]
  have e3 : ∀ t, trisC (A ++ t :: List.replicate (n - j - 1) zeroT) = trisC A ++ (triC t ++ trisC (List.replicate (n - j - 1) zeroT)) := fun t => by simp [trisC]
  rw [e1, e2, e3, e3, List.set_append_right _ _ (by omega), hl, Nat.sub_self]
  rfl
attribute [local irreducible] Calls Walk1 WalkTo Tri EndA
theorem buildLong_any (vl : Value) (n : Nat) (xs : List Value) (h : 4096 < n) (w : World) (hvl : RdV w 19 vl n xs) :
    Calls Try.prog 7 #[vl] w fun e w' => e = .returned (.tuple #[.agg #[.slice none 0 0, .slice none 0 0], .int .i64 3]) ∧ Below w.heap.size w w' := by
  obtain ⟨_, a, c, rfl, _⟩ := hvl
  refine calls_tri Try.func7 rfl Try.ntmps7 rfl ?_
  repeat (first | (show Walk1 _ _ _ (_ :: _) _ _; first | (show HW1 (.move _); refine wz1 ?_) | (show HW1 (.assign _); refine wz13 ?_) | (show HW1 (.binOp .gtr _ _ _ _); refine wz33 ?_) | (show HW1 (.store _ _ _); refine wz14 ?_) | (show HW1 (.alloc _); refine wz6 ?_) | (show HW1 (.build _ _); refine wz32 ?_) | (show HW1 (.call ⟨.builtin .len, _, _⟩); refine wz39 ?_)) | refine go1 ?_ | refine end_block_other rfl ?_ | refine end_scope (fun _ h => by cases h) ?_ | (refine walk_endD ?_ ?_; (· kernel_rfl)) | refine tri_yesA rfl ?_ | refine tri_noA rfl ?_ | refine tri_trueA rfl ?_ | refine tri_falseA rfl ?_)
  refine end_ret (.c (.tuple #[.agg #[.slice none 0 0, .slice none 0 0], .int .i64 3])) (res_cellT rfl rfl rfl rfl rfl rfl rfl rfl) ?_
  exact fin_below fun _ => rfl
end Go.Proofs.Ytcgmapioelfneaa
namespace Go.Proofs.Ytcgmapioelfneaa
open Go.RowKit
set_option maxRecDepth 100000
set_option maxHeartbeats 2000000
theorem mul_small {j : Nat} {r : Int} (hj : j ≤ 4097) (hr : -7 < r ∧ r < 7) : -100000 ≤ (j : Int) * r ∧ (j : Int) * r ≤ 100000 := by
  have h1 : (j : Int) * r ≤ (j : Int) * 6 := Int.mul_le_mul_of_nonneg_left (by omega) (by omega)
  have h2 : (j : Int) * (-6) ≤ (j : Int) * r := Int.mul_le_mul_of_nonneg_left (by omega) (by omega)
  omega
attribute [local irreducible] Calls Walk1 WalkTo Tri EndA
theorem bvhMany_walk (more : Bool) (x : Int) (w : World) :
    Calls Try.prog 5 #[.bool more, .int .i64 x] w fun e w' => e = .returned (.bool true) ∧ Below w.heap.size w w' := by
  have hx7 := mod7 x
  have hms := fun (j : Nat) (hj : j ≤ 4097) => mul_small hj hx7
  have hset := fun n j hj => manyL_set (x.tmod 7) n j hj
  have hlen := fun n j => (tris_len (manyL (x.tmod 7) n j) (manyL_ok _ _ _)).trans (by rw [manyL_len])
  have hz := fun n => (show (madeCells #[.int .i64 0, .int .i64 0, .int .i64 0, .int .i64 0, .int .i64 0, .int .i64 0, .int .i64 0, .int .i64 0, .int .i64 0, .int .i64 0, .int .i64 0, .int .i64 0, .int .i64 0, .int .i64 0, .int .i64 0, .int .i64 0, .int .i64 0, .int .i64 0, .int .u8 0] (n * 19)).toList = _ from made_tris n)
  simp only [← manyL_zero (x.tmod 7)] at hz
  refine calls_tri Try.func5 rfl Try.ntmps5 rfl ?_
  cases more
  · repeat (first | (show Walk1 _ _ _ (_ :: _) _ _; first | (show HW1 (.move _); first | refine wz40 ?_ | refine wz1 ?_) | (show HW1 (.assign _); first | refine wz13 ?_ | refine wz2 ?_) | (show HW1 (.makeSlice _ _ _); refine wz114 ?_) | (show HW1 (.call ⟨.builtin .len, _, _⟩); refine wz57 ?_)) | refine go1 ?_ | refine end_block_other rfl ?_ | refine end_scope (fun _ h => by cases h) ?_ | (refine walk_endD ?_ ?_; (· kernel_rfl)) | refine tri_yesA rfl ?_ | refine tri_noA rfl ?_ | refine tri_trueA rfl ?_ | refine tri_falseA rfl ?_)
    generalize hn : 4096 = n
    rw [hz]
    refine tri_loop (X := Nat) (fun j => ⟨[(17, SV.c (.int .i64 ((j : Nat) : Int))), (16, SV.c (.int .i64 ((n : Nat) : Int))), (6, .v 14), (0, .c (.bool false)), (1, .c (.int .i64 x))], [(14, some (.own 14 37 19 n (trisC (manyL (x.tmod 7) n j))))]⟩)
      (fun j => j ≤ n) (fun j => n - j) 0 (by omega) (by exact ent_kp) ?_
    intro j hj Q next
    by_cases h : j < n
    · have nx := fun S' => next S' (j + 1)
      have h1 := hms j (by omega)
      have h2 := hset n j h
      have h3 := hlen n j
      clear next hset hlen hz hms
      generalize trisC (manyL (x.tmod 7) n (j + 1)) = T1 at *
      generalize trisC (manyL (x.tmod 7) n j) = T0 at *
      repeat (first | (show Walk1 _ _ _ (_ :: _) _ _; first | (show HW1 (.move _); refine wz1 ?_) | (show HW1 (.assign _); refine wz2 ?_) | (show HW1 (.binOp .mul _ _ _ _); refine wz125 ?_) | (show HW1 (.binOp .rem _ _ _ _); refine walk1_t (op_remI rfl rfl rfl rfl rfl (by omega)) ?_) | (show HW1 (.binOp .lss _ _ _ _); refine wz5 ?_) | (show HW1 (.indexAddr _ _ _); refine wz102 ?_) | (show HW1 (.fieldAddr _ _ _); refine walk1_t (op_fldV rfl rfl rfl rfl rfl (by omega) rfl rfl rfl) ?_)) | refine go1 ?_ | refine end_block_other rfl ?_ | refine end_scope (fun _ h => by cases h) ?_ | (refine walk_endD ?_ ?_; (· kernel_rfl)) | refine tri_yesA rfl ?_ | refine tri_noA rfl ?_ | refine tri_trueA rfl ?_ | refine tri_falseA rfl ?_)
      refine walk1_t (op_idxVA (j := 0) (off' := j * 19) rfl rfl rfl rfl ⟨_, rfl⟩ rfl (by omega) rfl rfl (by decide) (by omega)) ?_
      repeat (first | (show Walk1 _ _ _ (_ :: _) _ _; (show HW1 (.fieldAddr _ _ _); refine walk1_t (op_fldV rfl rfl rfl rfl rfl (by omega) rfl rfl rfl) ?_)) | refine go1 ?_ | refine end_block_other rfl ?_ | refine end_scope (fun _ h => by cases h) ?_ | (refine walk_endD ?_ ?_; (· kernel_rfl)) | refine tri_yesA rfl ?_ | refine tri_noA rfl ?_ | refine tri_trueA rfl ?_ | refine tri_falseA rfl ?_)
      refine walk1_b (op_storeVZ rfl rfl rfl rfl rfl rfl rfl rfl rfl (by omega) h2) ?_
      repeat (first | (show Walk1 _ _ _ (_ :: _) _ _; first | (show HW1 (.move _); refine wz1 ?_) | (show HW1 (.binOp .add _ _ _ _); refine wz10 ?_)) | refine go1 ?_ | refine end_block_other rfl ?_ | refine end_scope (fun _ h => by cases h) ?_ | (refine walk_endD ?_ ?_; (· kernel_rfl)) | refine tri_yesA rfl ?_ | refine tri_noA rfl ?_ | refine tri_trueA rfl ?_ | refine tri_falseA rfl ?_)
      exact nx _ (by omega) (by omega) (by exact ent_kp)
    obtain rfl : j = n := by omega
    clear next hset hz hms
    have hml := manyL_len (x.tmod 7) j j
    have hmo := manyL_ok (x.tmod 7) j j
    have hmf := manyL_far (x.tmod 7) j j
    generalize manyL (x.tmod 7) j j = L at *
    have cB := fun w v h => build_any L hmo (by omega) (by omega) hmf v w h
    obtain ⟨M, D, hS⟩ := sound_of L (fun t ht => near_of (hmf t ht)) (by omega)
    have hN0 : 0 < (treeL L).1.length := by have := hS.nz; omega
    have hNl := hS.nl
    have cS := fun v1 v2 vl w h1 h2 h3 => soundB_any hmo hS (by omega) (by omega) v1 v2 vl w h1 h2 h3
    have cD := fun v1 v2 w h1 => deepB_any hS (by omega) hN0 v1 v2 w h1
    have hD := hS.deep
    rw [hml] at cB cS
    generalize (treeL L).1.length = n1 at *
    generalize nodesC (treeL L).1 = NC1 at *
    generalize (treeL L).2.length = k1 at *
    generalize ordC (treeL L).2 = KC1 at *
    generalize trisC L = TC at *
    generalize D 0 = DD at *
    clear hS hmo hmf hlen
    repeat (first | (show Walk1 _ _ _ (_ :: _) _ _; first | (show HW1 (.move _); refine wz1 ?_) | (show HW1 (.binOp .lss _ _ _ _); refine wz5 ?_)) | refine go1 ?_ | refine end_block_other rfl ?_ | refine end_scope (fun _ h => by cases h) ?_ | (refine walk_endD ?_ ?_; (· kernel_rfl)) | refine tri_yesA rfl ?_ | refine tri_noA rfl ?_ | refine tri_trueA rfl ?_ | refine tri_falseA rfl ?_)
    refine walk1_callB (rb := [14]) (vs := [.v 14]) 901 902 rfl rfl rfl rfl evq rfl rfl (by kernel_rfl) (fun S' e a w' hS hq => cB w' _ ((rdn_own (n := 14) rfl) S' e a w' hq hS)) ?_
    repeat (first | (show Walk1 _ _ _ (_ :: _) _ _; first | (show HW1 (.move _); refine wz1 ?_) | (show HW1 (.alloc _); refine wz6 ?_) | (show HW1 (.extract _ _); refine wz84 ?_)) | refine go1 ?_ | refine end_block_other rfl ?_ | refine end_scope (fun _ h => by cases h) ?_ | (refine walk_endD ?_ ?_; (· kernel_rfl)) | refine tri_yesA rfl ?_ | refine tri_noA rfl ?_ | refine tri_trueA rfl ?_ | refine tri_falseA rfl ?_)
    refine walk1_b (op_storeB (q1 := 901) (q2 := 902) rfl rfl rfl rfl rfl (fun _ => rfl) rfl rfl rfl rfl (fun _ => rfl)) ?_
    iterate 3 (try (first | (show Walk1 _ _ _ (_ :: _) _ _; (show HW1 (.assign _); refine wz2 ?_)) | refine go1 ?_ | refine end_block_other rfl ?_ | refine end_scope (fun _ h => by cases h) ?_ | (refine walk_endD ?_ ?_; (· kernel_rfl)) | refine tri_yesA rfl ?_ | refine tri_noA rfl ?_ | refine tri_trueA rfl ?_ | refine tri_falseA rfl ?_))
    refine tri_close rfl fun e w1 hb hr => ?_
    have r1 := fs_ownN (hr 901 _ rfl)
    have r2 := fs_ownN (hr 902 _ rfl)
    have r3 := fs_ownN (hr 14 _ rfl)
    have r4 : FS w1 2 (blkV (e 8).b) 1 [(e 901).v, (e 902).v] := fs_blkN (hr 8 _ rfl) rfl
    refine tri_keep [(0, .c (.bool false)), (8, .c (ptrV (blkV (e 8).b) 0)), (9, .c (.int .i64 0)), (6, .c (e 14).v)] [] (by repeat (first | exact hasT_nil | refine hasT_cons rfl ?_ | refine hasT_eq rfl (svi (by omega)) ?_)) (by exact hasR_nil) ?_
    clear hr
    generalize (e 901).v = v1 at *
    generalize (e 902).v = v2 at *
    generalize (e 14).v = vl at *
    generalize (e 8).b = b8 at *
    obtain ⟨A1, hA1⟩ : ∃ A, A = [v1, v2] := ⟨_, rfl⟩
    rw [← hA1] at r4
    have p0 : A1[0]? = some v1 := by rw [hA1]; rfl
    have p2 : (A1.drop 0).take 2 = [v1, v2] := by rw [hA1]; rfl
    have p4 : A1.length = 2 := by rw [hA1]; rfl
    clear hA1
    have cW := works21_any
    repeat (first | (show Walk1 _ _ _ (_ :: _) _ _; first | (show Walk1 _ _ _ (⟨_, _, _, _, _, some _⟩ :: _) _ _; refine zy1 ?_) | (show HW1 (.move _); refine wz1 ?_) | (show HW1 (.assign _); refine wz2 ?_) | (show HW1 (.binOp .leq _ _ _ _); refine wz64 ?_) | (show HW1 (.binOp .eql _ _ _ _); refine wz30 ?_) | (show HW1 (.pick _ _ _); refine wz8 ?_) | (show HW1 (.load _ _); refine wz51 ?_) | (show HW1 (.call ⟨.value (.func 15), _, _⟩); (refine cwalk1M 15 ?_; refine ⟨[], _, (fun S2 e a w hS hq => cS v1 v2 vl w (r1.anew (by omega) (hS.frame.below rfl)) (r2.anew (by omega) (hS.frame.below rfl)) (r3.anew (by omega) (hS.frame.below rfl))), ?_⟩)) | (show HW1 (.call ⟨.value (.func 16), _, _⟩); (refine cwalk1M 16 ?_; refine ⟨[], _, (fun S2 e a w hS hq => cD v1 v2 w (r1.anew (by omega) (hS.frame.below rfl))), ?_⟩)) | (show HW1 (.call ⟨.value (.func 9), _, _⟩); ((first | refine cwalk11 9 ?_ | refine cwalk10 9 ?_); refine ⟨_, fun e w => cW w, ?_⟩))) | refine go1 ?_ | refine end_block_other rfl ?_ | refine end_scope (fun _ h => by cases h) ?_ | (refine walk_endD ?_ ?_; (· kernel_rfl)) | refine tri_yesA rfl ?_ | refine tri_noA rfl ?_ | refine tri_trueA rfl ?_ | refine tri_falseA rfl ?_)
    refine end_ret (.c (.bool true)) (res_tmp rfl rfl) ?_
    exact fin_anew hb fun _ => rfl
  · repeat (first | (show Walk1 _ _ _ (_ :: _) _ _; first | (show HW1 (.move _); first | refine wz40 ?_ | refine wz1 ?_) | (show HW1 (.assign _); first | refine wz13 ?_ | refine wz2 ?_) | (show HW1 (.binOp .add _ _ _ _); refine wz10 ?_) | (show HW1 (.makeSlice _ _ _); refine wz114 ?_) | (show HW1 (.call ⟨.builtin .len, _, _⟩); refine wz57 ?_)) | refine go1 ?_ | refine end_block_other rfl ?_ | refine end_scope (fun _ h => by cases h) ?_ | (refine walk_endD ?_ ?_; (· kernel_rfl)) | refine tri_yesA rfl ?_ | refine tri_noA rfl ?_ | refine tri_trueA rfl ?_ | refine tri_falseA rfl ?_)
    generalize hn : 4096 + 1 = n
    rw [hz]
    refine tri_loop (X := Nat) (fun j => ⟨[(17, SV.c (.int .i64 ((j : Nat) : Int))), (16, SV.c (.int .i64 ((n : Nat) : Int))), (6, .v 14), (0, .c (.bool true)), (1, .c (.int .i64 x))], [(14, some (.own 14 37 19 n (trisC (manyL (x.tmod 7) n j))))]⟩)
      (fun j => j ≤ n) (fun j => n - j) 0 (by omega) (by exact ent_kp) ?_
    intro j hj Q next
    by_cases h : j < n
    · have nx := fun S' => next S' (j + 1)
      have h1 := hms j (by omega)
      have h2 := hset n j h
      have h3 := hlen n j
      clear next hset hlen hz hms
      generalize trisC (manyL (x.tmod 7) n (j + 1)) = T1 at *
      generalize trisC (manyL (x.tmod 7) n j) = T0 at *
      repeat (first | (show Walk1 _ _ _ (_ :: _) _ _; first | (show HW1 (.move _); refine wz1 ?_) | (show HW1 (.assign _); refine wz2 ?_) | (show HW1 (.binOp .mul _ _ _ _); refine wz125 ?_) | (show HW1 (.binOp .rem _ _ _ _); refine walk1_t (op_remI rfl rfl rfl rfl rfl (by omega)) ?_) | (show HW1 (.binOp .lss _ _ _ _); refine wz5 ?_) | (show HW1 (.indexAddr _ _ _); refine wz102 ?_) | (show HW1 (.fieldAddr _ _ _); refine walk1_t (op_fldV rfl rfl rfl rfl rfl (by omega) rfl rfl rfl) ?_)) | refine go1 ?_ | refine end_block_other rfl ?_ | refine end_scope (fun _ h => by cases h) ?_ | (refine walk_endD ?_ ?_; (· kernel_rfl)) | refine tri_yesA rfl ?_ | refine tri_noA rfl ?_ | refine tri_trueA rfl ?_ | refine tri_falseA rfl ?_)
      refine walk1_t (op_idxVA (j := 0) (off' := j * 19) rfl rfl rfl rfl ⟨_, rfl⟩ rfl (by omega) rfl rfl (by decide) (by omega)) ?_
      repeat (first | (show Walk1 _ _ _ (_ :: _) _ _; (show HW1 (.fieldAddr _ _ _); refine walk1_t (op_fldV rfl rfl rfl rfl rfl (by omega) rfl rfl rfl) ?_)) | refine go1 ?_ | refine end_block_other rfl ?_ | refine end_scope (fun _ h => by cases h) ?_ | (refine walk_endD ?_ ?_; (· kernel_rfl)) | refine tri_yesA rfl ?_ | refine tri_noA rfl ?_ | refine tri_trueA rfl ?_ | refine tri_falseA rfl ?_)
      refine walk1_b (op_storeVZ rfl rfl rfl rfl rfl rfl rfl rfl rfl (by omega) h2) ?_
      repeat (first | (show Walk1 _ _ _ (_ :: _) _ _; first | (show HW1 (.move _); refine wz1 ?_) | (show HW1 (.binOp .add _ _ _ _); refine wz10 ?_)) | refine go1 ?_ | refine end_block_other rfl ?_ | refine end_scope (fun _ h => by cases h) ?_ | (refine walk_endD ?_ ?_; (· kernel_rfl)) | refine tri_yesA rfl ?_ | refine tri_noA rfl ?_ | refine tri_trueA rfl ?_ | refine tri_falseA rfl ?_)
      exact nx _ (by omega) (by omega) (by exact ent_kp)
    obtain rfl : j = n := by omega
    clear next hset hz hms
    have hl := hlen j j
    generalize trisC (manyL (x.tmod 7) j j) = TC at *
    have cL := fun v w h => buildLong_any v j TC (by omega) w h
    have cW := works21_any
    clear hlen
    repeat (first | (show Walk1 _ _ _ (_ :: _) _ _; first | (show Walk1 _ _ _ (⟨_, _, _, _, _, some _⟩ :: _) _ _; refine zy1 ?_) | (show HW1 (.move _); refine wz1 ?_) | (show HW1 (.assign _); refine wz2 ?_) | (show HW1 (.binOp .lss _ _ _ _); refine wz5 ?_) | (show HW1 (.binOp .eql _ _ _ _); refine wz30 ?_) | (show HW1 (.pick _ _ _); refine wz8 ?_) | (show HW1 (.load _ _); refine wz3 ?_) | (show HW1 (.store _ _ _); refine wz14 ?_) | (show HW1 (.alloc _); refine wz6 ?_) | (show HW1 (.fieldAddr _ _ _); refine wz4 ?_) | (show HW1 (.extract _ _); first | refine wz16 ?_ | refine wz15 ?_) | (show HW1 (.call ⟨.builtin .len, _, _⟩); refine wz39 ?_) | (show HW1 (.call ⟨.value (.func 7), _, _⟩); (refine cwalk1M 7 ?_; refine ⟨_, _, callM_1 (rdn_own rfl) (fun e w h1 => cL _ w h1), ?_⟩)) | (show HW1 (.call ⟨.value (.func 9), _, _⟩); ((first | refine cwalk11 9 ?_ | refine cwalk10 9 ?_); refine ⟨_, fun e w => cW w, ?_⟩))) | refine go1 ?_ | refine end_block_other rfl ?_ | refine end_scope (fun _ h => by cases h) ?_ | (refine walk_endD ?_ ?_; (· kernel_rfl)) | refine tri_yesA rfl ?_ | refine tri_noA rfl ?_ | refine tri_trueA rfl ?_ | refine tri_falseA rfl ?_)
    refine end_ret (.c (.bool true)) (res_tmp rfl rfl) ?_
    exact fin_below fun _ => rfl
end Go.Proofs.Ytcgmapioelfneaa
