/- A scene's points, written: walked. No condition. -/
import Derived.Test.YtihbiejgebmeaaaRecM0
namespace Go.Proofs.Ytihbiejgebmeaaa
open Go.RowKit
set_option maxRecDepth 100000
set_option maxHeartbeats 2000000
section
variable {C : Ctx} {S : St}
theorem rdn_part {n size off : Nat} {T : TypeId} {wr : Bool} {k cap : Nat} {a : Array Value} (us : List Value) (hr : S.res n = some (.blk n T (.c a) wr)) (ha : (a.toList.drop off).take us.length = us) (hk : us.length = k * size) : RdN C S [n] size (.s n off k cap) k us := by
  intro S' e aa w h hS
  obtain ⟨fr, hb, _⟩ := res_blk hS ((h n (by simp)).trans hr)
  refine ⟨hk, some ⟨(e n).b, off, none⟩, cap, rfl, .inr ⟨(e n).b, off, rfl, fun j u hu => ?_⟩⟩
  have hj : j < us.length := (List.getElem?_eq_some_iff.1 hu).1
  rw [cell_of_row w _ _ _ _ _ hb]
  rw [← ha, List.getElem?_take_of_lt hj, List.getElem?_drop] at hu
  simpa [SA.c] using hu
end
section
variable {C : Ctx} {ops : Array Oper} {S : St} {o : Oper}
theorem arr3p (A : Array Value) (h : A.size = 3) : ∃ a b c, A = #[a, b, c] := by
  obtain ⟨l⟩ := A
  match l, h with
  | [a, b, c], _ => exact ⟨a, b, c, rfl⟩
theorem op_bsliceP3 {t T n : Nat} {parts : Array (Nat × Operand)} {x0 x1 x2 : Operand} {A0 A1 A2 : Array Value} {Z : Array Value} (ho : o.op = .buildSlice t 3 parts) (hp : parts = #[(0, x0), (1, x1), (2, x2)]) (hdn : o.dst = some n) (hg : o.guard = none) (hd : dstB o.dst C.nt = true)
    (h0 : S.ev x0 = some (.c (.agg A0))) (h1 : S.ev x1 = some (.c (.agg A1))) (h2 : S.ev x2 = some (.c (.agg A2))) (hu' : tabLook undT t = some (.slice T)) (hs' : tabLook sizT T = some 3) (hz' : tabLook zerT T = some Z) (hZ : Z.size = 3) (s0 : A0.size = 3) (s1 : A1.size = 3) (s2 : A2.size = 3) :
    OpG C Try.prog ops o S ⟨[x0, x1, x2].flatMap opT, [], [(n, .s n 0 3 3)], [(n, some (.blk n T (.c (A0 ++ A1 ++ A2))))], [n]⟩ := by
  refine opG_mk hg fun S' g1 g2 g3 e a w hS => ?_
  have hN := hS.newBlk (g3 n (by simp)) T (.c (A0 ++ A1 ++ A2)) (by simp [SA.c])
  have e0 : a.eval x0 = .agg A0 := hS.ev ((ev_like g1 fun _ h => List.mem_flatMap.2 ⟨x0, by simp, h⟩).trans h0)
  have e1 : a.eval x1 = .agg A1 := hS.ev ((ev_like g1 fun _ h => List.mem_flatMap.2 ⟨x1, by simp, h⟩).trans h1)
  have e2 : a.eval x2 = .agg A2 := hS.ev ((ev_like g1 fun _ h => List.mem_flatMap.2 ⟨x2, by simp, h⟩).trans h2)
  have hu := tabAll_look undT_ok hu'
  have hz := tabAll_look zerT_ok hz'
  obtain ⟨zv, hz3, hzc⟩ : ∃ zv, (zeroValue T).run Try.prog w = .ok zv w ∧ zv.cells = Z := by
    cases hb : (Try.prog.info? T) with
    | none => simp [hb] at hz
    | some i =>
      cases hc : i.zero with
      | none => simp [hb, hc] at hz
      | some zz => exact ⟨zz, by simp [zeroValue, typeInfo, hb, hc], by simpa [hb, hc] using hz⟩
  refine wp_value (v := .slice (some ⟨w.heap.size, 0, none⟩) 3 3) (w' := w.alloc (.cells (A0 ++ A1 ++ A2) T)) ?_ ⟨e.set n ⟨w.heap.size, 0, undef⟩, ?_⟩
  · simp only [execOp, ho, hp, Instr.buildSlice, Sem.run_bind, run_underlying hu w, Result.andThen_ok, run_sizeT hs' w, Sem.run_ite]
    simp only [show ¬ (3 * 3 > 2 ^ 24) from by omega, if_false, show ¬ (3 = 0) from by omega, Sem.run_bind, hz3, Result.andThen_ok, Sem.run_pure, hzc, List.map_toArray, List.map_cons, List.map_nil, e0, e1, e2]
    obtain ⟨z0, z1, z2, rfl⟩ := arr3p Z hZ
    obtain ⟨a0, a1, a2, rfl⟩ := arr3p A0 s0
    obtain ⟨b0, b1, b2, rfl⟩ := arr3p A1 s1
    obtain ⟨c0, c1, c2, rfl⟩ := arr3p A2 s2
    rw [show Instr.fill (fun i => some (i * 3, 3)) ((Array.range (3 * 3)).map fun x => (#[z0, z1, z2] : Array Value)[x % (#[z0, z1, z2] : Array Value).size]!) [(0, .agg #[a0, a1, a2]), (1, .agg #[b0, b1, b2]), (2, .agg #[c0, c1, c2])] = some (#[a0, a1, a2] ++ #[b0, b1, b2] ++ #[c0, c1, c2]) from by kernel_rfl]
    simp [newRow]
  · rw [hdn]
    have hd' : dstB (some n) C.nt = true := by rw [← hdn]; exact hd
    have := hN.put hd' (.s n 0 3 3)
    simp only [SV.s, Env.set_self] at this
    exact this
theorem wrapU (b : BitVec 64) : IntKind.i64.wrap (bvi b) = b.toInt := by
  have h1 := b.isLt
  have h2 : (b.toNat : Int) % 18446744073709551616 = (b.toNat : Int) := Int.emod_eq_of_lt (by omega) (by omega)
  have h3 : IntKind.i64.wrap (bvi b) = if 9223372036854775808 ≤ (b.toNat : Int) % 18446744073709551616 then (b.toNat : Int) % 18446744073709551616 - 18446744073709551616 else (b.toNat : Int) % 18446744073709551616 := by
    simp [IntKind.wrap, bvi, IntKind.bits, IntKind.signed]
  rw [h3, h2, BitVec.toInt_eq_toNat_cond]
  split <;> split <;> omega
/-- An unsigned number of 64 bits as a signed one. -/
theorem op_cvtBW {s d : TypeId} {x : Operand} {b : BitVec 64} {ds : TypeDesc} (ho : o.op = .convert s d x) (hg : o.guard = none) (hd : dstB o.dst C.nt = true) (hx : EvB S x .u64 b) (hs' : tabLook undT s = some ds) (hu' : tabLook undT d = some (.int .i64)) :
    OpG C Try.prog ops o S ⟨opT x, [], dw o.dst (.c (.int .i64 b.toInt)), [], []⟩ :=
  op_conv ho hg hd hx.ev hs' hu' (wrapU b)
/-- An element of more than one cell of an array that is a value. -/
theorem op_indexA {ty : TypeId} {x y : Operand} {cs A : Array Value} {len j m : Nat} {e0 : TypeId} {d : TypeDesc} (ho : o.op = .index ty x y) (hg : o.guard = none) (hd : dstB o.dst C.nt = true) (hx : S.ev x = some (.c (.agg cs))) (hy : EvK S y j) (hu' : tabLook undT ty = some (.array len e0)) (hs' : tabLook sizT e0 = some m) (he' : tabLook undT e0 = some d) (hda : d.isRow = true) (hj : j < len) (hv : cs.extract (j * m) (j * m + m) = A) :
    OpG C Try.prog ops o S ⟨opT x ++ opT y, [], dw o.dst (.c (.agg A)), [], []⟩ := by
  obtain ⟨k, hy⟩ := hy
  refine op_two (v := .c (.agg A)) hg hd hx hy fun e ρ w h1 h2 => ?_
  have h1' : ρ x = .agg cs := h1
  have h2' : ρ y = .int k (j : Int) := h2
  have hu := tabAll_look undT_ok hu'
  have he := tabAll_look undT_ok he'
  have h3 : (0 : Int) ≤ (j : Int) ∧ (j : Int) < (len : Int) := by omega
  have hagg : (isAgg e0).run Try.prog w = .ok true w := (run_isAgg he w).trans (by rw [hda])
  simp only [execOp, ho, h1', h2', Instr.index, asIntOf, Sem.run_bind, run_underlying hu w, Result.andThen_ok, Sem.run_pure, Sem.run_ite, if_pos h3, run_sizeT hs' w, part, hagg, Int.toNat_natCast, if_true, hv]
  rfl
end
attribute [local irreducible] Calls Walk1 WalkTo Tri EndA
theorem projPt_any (B : List (BitVec 8)) (ps : List P3) (hz : ∀ p ∈ ps, ∀ z ∈ p.l, okI z) (hB : B.length ≤ 900000) (hl : ps.length ≤ 10) (v2 : Value) (w : World) (b : Nat) (v : Value) (hB0 : Blk w b (pwC v) 79) (hK : pwK B w v) (hne : v.ownBlock ≠ some b) (hv2 : RdX w (b :: v.ownBlock.toList) 3 v2 ps.length (pxL ps)) :
    Calls Try.prog 27 #[.pointer (some ⟨b, 0, none⟩), v2] w (RetPL w b v.ownBlock 79 pwC (pwK (B ++ wZ (pxZ ps))) (.tuple #[])) := by
  have cp := fun (j : Nat) (p : P3) (hp : ps[j]? = some p) v2 w b v hB0 hK hne h => projPut_any (B ++ wZ (pxZ (ps.take j))) p.l (hz p (List.mem_of_getElem? hp)) (by
      rw [List.length_append, wZ_length, pxZ_len, List.length_take]
      omega) (by simp [P3.l]) v2 w b v hB0 hK hne h
  have hrd2 := hv2.rd
  have hrow : ∀ j p, ps[j]? = some p → ((pxL ps).drop (0 + j * 3)).take 3 = p.c.toList := fun j p h => by
    rw [Nat.zero_add]
    exact flat_row (sz := 3) (f := fun p : P3 => p.c.toList) ps (fun _ _ => rfl) j p h
  have hpl : (pxL ps).length = ps.length * 3 := flat_length (sz := 3) (f := fun p : P3 => p.c.toList) ps fun _ _ => rfl
  have hp0 : B ++ wZ (pxZ (ps.take 0)) = B := by simp [pxZ, wZ_nil]
  generalize pxL ps = XS at *
  unfold pwK at *
  refine calls_triL (b := b) (79) (SA.l [SV.v 1002]) Try.func27 rfl Try.ntmps27 rfl rfl (hB0) (fun _ => rfl) isOwn_own hK hne ?_
  repeat (first | (show Walk1 _ _ _ (_ :: _) _ _; first | (show Walk1 _ _ _ (⟨_, .move _, _, _, _, _⟩ :: _) _ _; first | refine walk1_t (op_moveN rfl rfl rfl rfl) ?_ | refine walk1_t (op_move rfl rfl rfl rfl) ?_) | (show Walk1 _ _ _ (⟨_, .call ⟨.builtin .len, _, _⟩, _, _, _, _⟩ :: _) _ _; refine walk1_t (op_lenF rfl rfl rfl (by first | assumption | exact FS.rd (by first | assumption | exact FSX.fs (by assumption) | (refine FS.cutB (by assumption) ?_; omega) | (refine FS.cut (by assumption) ?_; omega)))) ?_)) | refine go1 ?_ | refine end_block_other rfl ?_ | refine end_scope (fun _ h => by cases h) ?_ | (refine walk_endD ?_ ?_; (· kernel_rfl)) | refine tri_yesA rfl ?_ | refine tri_noA rfl ?_ | refine tri_trueA rfl ?_ | refine tri_falseA rfl ?_)
  refine tri_loop (X := Nat) (fun j => ⟨[(8, SV.c (.int .i64 ((j : Nat) : Int))), (7, SV.c (.int .i64 ((ps.length : Nat) : Int))), (6, .c v2), (0, .p 1000 0)], [(1000, some (.blk 1000 79 (SA.l [SV.v 1002]))), (1001, some (.is 1000 b)), (1002, some (.own 1002 5 1 (B ++ wZ (pxZ (ps.take j))).length (valsL .u8 (B ++ wZ (pxZ (ps.take j))))))]⟩)
    (fun j => j ≤ ps.length) (fun j => ps.length - j) 0 (by omega) (by rw [hp0]; exact ent_keep (by repeat (first | exact hasT_nil | refine hasT_cons rfl ?_ | refine hasT_eq rfl (svi (by omega)) ?_)) (by repeat (first | exact hasR_nil | refine hasR_cons rfl ?_))) ?_
  intro j hj K next
  by_cases h : j < ps.length
  · obtain ⟨p, hpj⟩ : ∃ p, ps[j]? = some p := ⟨_, List.getElem?_eq_getElem h⟩
    have hr := hrow j p hpj
    have hlt : j * 3 + 3 ≤ XS.length := by rw [hpl]; omega
    have cp1 := fun v2 w b v hB0 hK hne h => cp j p hpj v2 w b v hB0 hK hne h
    have hst : B ++ wZ (pxZ (ps.take (j + 1))) = (B ++ wZ (pxZ (ps.take j))) ++ putL (sgL p.l) := by
      rw [pxZ, fm_take P3.l ps j p hpj, wZ_app, List.append_assoc]
      rfl
    have nx := fun S' => next S' (j + 1)
    rw [hst] at nx
    clear next cp hst hp0 hrow
    generalize B ++ wZ (pxZ (ps.take j)) = P at *
    obtain ⟨x, y, z⟩ := p
    simp only [P3.l, P3.c] at *
    generalize hQ : P ++ putL (sgL [x, y, z]) = Q at *
    repeat (first | (show Walk1 _ _ _ (_ :: _) _ _; first | (show Walk1 _ _ _ (⟨_, .move _, _, _, _, _⟩ :: _) _ _; refine walk1_t (op_move rfl rfl rfl rfl) ?_) | (show Walk1 _ _ _ (⟨_, .binOp .add _ _ _ _, _, _, _, _⟩ :: _) _ _; refine walk1_t (op_addN rfl rfl rfl (by first | exact evN_const rfl | exact rfl) (by first | exact evN_const rfl | exact rfl) (by omega)) ?_) | (show Walk1 _ _ _ (⟨_, .binOp .lss _ _ _ _, _, _, _, _⟩ :: _) _ _; refine walk1_t (op_ltN rfl rfl rfl (by first | exact evN_const rfl | exact rfl) (by first | exact evN_const rfl | exact rfl)) ?_) | (show Walk1 _ _ _ (⟨_, .indexAddr _ _ _, _, _, _, _⟩ :: _) _ _; refine walk1_t (op_idxF rfl rfl rfl rfl (by first | exact evK_const rfl | exact evK_tmp rfl) rfl rfl (by first | assumption | exact FS.rd (by first | assumption | exact FSX.fs (by assumption) | (refine FS.cutB (by assumption) ?_; omega) | (refine FS.cut (by assumption) ?_; omega))) (by first | omega | decide) rfl) ?_) | (show Walk1 _ _ _ (⟨_, .load _ _, _, _, _, _⟩ :: _) _ _; first | refine walk1_t (op_load rfl rfl rfl rfl rfl rfl rfl) ?_ | refine walk1_t (op_loadsX rfl rfl rfl rfl (by first | assumption | exact FSX.rdx (by assumption) | exact FSX.rdx (FSX.cutB (by assumption) (by omega))) rfl rfl rfl (by decide) (by first | omega | decide) (by with_reducible assumption)) ?_) | (show Walk1 _ _ _ (⟨_, .store _ _ _, _, _, _, _⟩ :: _) _ _; refine walk1_b (op_stores rfl rfl rfl rfl rfl rfl rfl) ?_) | (show Walk1 _ _ _ (⟨_, .alloc _, _, _, _, _⟩ :: _) _ _; refine walk1_n (op_alloc rfl rfl rfl rfl rfl) (by kernel_rfl) ?_) | (show Walk1 _ _ _ (⟨_, .fieldAddr _ _ _, _, _, _, _⟩ :: _) _ _; refine walk1_t (op_fldT rfl rfl rfl rfl rfl rfl off_zero) ?_) | (show Walk1 _ _ _ (⟨_, .buildSlice _ _ _, _, _, _, _⟩ :: _) _ _; refine walk1_n (op_bsliceL rfl (by repeat (first | exact evl1_nil | apply evl1_cons rfl)) rfl rfl rfl rfl rfl rfl rfl rfl (by decide) (by repeat (first | exact ones_nil | apply ones_own rfl | apply ones_sub rfl | apply ones_one (fun _ => rfl))) (by kernel_rfl)) (by kernel_rfl) ?_) | (show Walk1 _ _ _ (⟨_, .call ⟨.value (.func 26), _, _⟩, _, _, _, _⟩ :: _) _ _; ((first | refine walk1_callPL 1002 1003 (SA.l [SV.v 1003]) rfl rfl rfl rfl (by repeat (first | exact evs_nil | apply evs_cons rfl)) rfl rfl rfl (by first | exact isOwn_own | exact isOwn_sub) rfl (by kernel_rfl) (by kernel_rfl) ?_ | refine walk1_callPL0 1002 1003 (SA.l [SV.v 1003]) rfl rfl rfl (by repeat (first | exact evs_nil | apply evs_cons rfl)) rfl rfl rfl (by first | exact isOwn_own | exact isOwn_sub) rfl (by kernel_rfl) (by kernel_rfl) ?_); refine ⟨_, _, _, _, _, callPL_1 (cells0 := pwC) rfl rfl (by first | exact isOwn_own | exact isOwn_sub) (by kernel_rfl) (fun _ => rfl) ((show RdN _ _ _ 1 (SV.s 19 0 3 3) 3 ([x, y, z].map (Value.int .i64)) from rdn_ls [.int .i64 x, .int .i64 y, .int .i64 z] rfl rfl)) (by kernel_rfl) (fun e w v hB hK hne h1 => cp1 _ w _ v hB hK hne h1), (fun _ => rfl), (by first | exact isOwn_own | exact isOwn_sub), ?_⟩))) | refine go1 ?_ | refine end_block_other rfl ?_ | refine end_scope (fun _ h => by cases h) ?_ | (refine walk_endD ?_ ?_; (· kernel_rfl)) | refine tri_yesA rfl ?_ | refine tri_noA rfl ?_ | refine tri_trueA rfl ?_ | refine tri_falseA rfl ?_)
    repeat (first | refine go1 ?_ | refine end_block_other rfl ?_ | refine end_scope (fun _ h => by cases h) ?_ | (refine walk_endD ?_ ?_; (· kernel_rfl)) | refine tri_yesA rfl ?_ | refine tri_noA rfl ?_ | refine tri_trueA rfl ?_ | refine tri_falseA rfl ?_)
    exact nx _ (by omega) (by omega) (ent_ren (fun n => cond (Nat.beq n 1002) 1003 n) (by repeat (first | exact hasTm_nil | refine hasTm_cons rfl (fun _ => rfl) ?_)) (by repeat (first | exact hasRm_nil | refine hasRm_cons rfl (fun _ => rfl) (fun _ _ h => h) rfl ?_)) (by kernel_rfl))
  · obtain rfl : j = ps.length := by omega
    rw [List.take_of_length_le (Nat.le_refl _)]
    clear next cp
    repeat (first | (show Walk1 _ _ _ (_ :: _) _ _; (show Walk1 _ _ _ (⟨_, .binOp .lss _ _ _ _, _, _, _, _⟩ :: _) _ _; refine walk1_t (op_ltN rfl rfl rfl (by first | exact evN_const rfl | exact rfl) (by first | exact evN_const rfl | exact rfl)) ?_)) | refine go1 ?_ | refine end_block_other rfl ?_ | refine end_scope (fun _ h => by cases h) ?_ | (refine walk_endD ?_ ?_; (· kernel_rfl)) | refine tri_yesA rfl ?_ | refine tri_noA rfl ?_ | refine tri_trueA rfl ?_ | refine tri_falseA rfl ?_)
    refine end_normal (.c (.tuple #[])) (res_none rfl) ?_
    exact fin_objL rfl rfl rfl isOwn_own rfl (fun _ => rfl) (fun _ => rfl)
theorem projPutE (B C : List (BitVec 8)) (zs : List Int) (hC : C = B ++ wZ zs) (hz : ∀ z ∈ zs, okI z) (hB : B.length ≤ 900000) (hl : zs.length ≤ 100) (v2 : Value) (w : World) (b : Nat) (v : Value) (hB0 : Blk w b (pwC v) 79) (hK : pwK B w v) (hne : v.ownBlock ≠ some b) (hv2 : RdX w (b :: v.ownBlock.toList) 1 v2 zs.length (zs.map (.int .i64))) :
    Calls Try.prog 26 #[.pointer (some ⟨b, 0, none⟩), v2] w (RetPL w b v.ownBlock 79 pwC (pwK C) (.tuple #[])) := by
  subst hC
  exact projPut_any B zs hz (by omega) hl v2 w b v hB0 hK hne hv2
theorem projPtE (B C : List (BitVec 8)) (ps : List P3) (hC : C = B ++ wZ (pxZ ps)) (hz : ∀ p ∈ ps, ∀ z ∈ p.l, okI z) (hB : B.length ≤ 900000) (hl : ps.length ≤ 10) (v2 : Value) (w : World) (b : Nat) (v : Value) (hB0 : Blk w b (pwC v) 79) (hK : pwK B w v) (hne : v.ownBlock ≠ some b) (hv2 : RdX w (b :: v.ownBlock.toList) 3 v2 ps.length (pxL ps)) :
    Calls Try.prog 27 #[.pointer (some ⟨b, 0, none⟩), v2] w (RetPL w b v.ownBlock 79 pwC (pwK C) (.tuple #[])) := by
  subst hC
  exact projPt_any B ps hz hB hl v2 w b v hB0 hK hne hv2
end Go.Proofs.Ytihbiejgebmeaaa
