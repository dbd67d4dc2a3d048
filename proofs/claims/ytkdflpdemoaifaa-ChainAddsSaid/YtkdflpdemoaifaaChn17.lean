/- A log's Entries and Copy: walked. No condition. -/
import Derived.Test.YtkdflpdemoaifaaChn7
import Derived.Test.YtkdflpdemoaifaaChn11
import Derived.Laws.StructEq
namespace Go.Proofs.Ytkdflpdemoaifaa
open Go.RowKit
set_option maxRecDepth 100000
set_option maxHeartbeats 4000000
section
variable {C : Ctx} {ops : Array Oper} {S : St} {o : Oper}
/-! ### pointers that are known, into what lay there -/
theorem op_nilC {x : Operand} {a : Addr} (ho : o.op = .nilCheck x) (hg : o.guard = none) (hd : dstB o.dst C.nt = true) (hx : S.ev x = some (.c (.pointer (some a)))) : OpG C Try.prog ops o S ⟨opT x, [], dw o.dst (.c (.pointer (some a))), [], []⟩ :=
  op_one (v := .c (.pointer (some a))) hg hd hx fun e ρ w h1 => by
    have h1' : ρ x = .pointer (some a) := h1
    simp [execOp, ho, h1', SV.c]
theorem op_eqNilPC {x y : Operand} {ty yt e0 : TypeId} {a : Addr} (hu' : tabLook undT ty = some (.pointer e0)) (ho : o.op = .binOp .eql ty x y yt) (hg : o.guard = none) (hd : dstB o.dst C.nt = true) (hx : S.ev x = some (.c (.pointer (some a)))) (hy : S.ev y = some (.c (.pointer none))) : OpG C Try.prog ops o S ⟨opT x ++ opT y, [], dw o.dst (.c (.bool false)), [], []⟩ :=
  op_two (v := .c (.bool false)) hg hd hx hy fun e ρ w h1 h2 => by
    have h1' : ρ x = .pointer (some a) := h1
    have h2' : ρ y = .pointer none := h2
    have hu := tabAll_look undT_ok hu'
    have hq : Try.prog.underlying ty = some (.pointer (Try.prog.pointee ty)) := by rw [hu]; simp [Program.pointee, hu]
    simp [execOp, ho, h1', h2', binOp, eqGuard, SV.c, run_equal_pointer_nil w ty _ hq]
theorem op_eqNilSC {x y : Operand} {ty yt e0 : TypeId} {ad : Addr} {len cap : Nat} (hu' : tabLook undT ty = some (.slice e0)) (ho : o.op = .binOp .eql ty x y yt) (hg : o.guard = none) (hd : dstB o.dst C.nt = true) (hx : S.ev x = some (.c (.slice (some ad) len cap))) (hy : S.ev y = some (.c (.slice none 0 0))) : OpG C Try.prog ops o S ⟨opT x ++ opT y, [], dw o.dst (.c (.bool false)), [], []⟩ :=
  op_two (v := .c (.bool false)) hg hd hx hy fun e ρ w h1 h2 => by
    have h1' : ρ x = .slice (some ad) len cap := h1
    have h2' : ρ y = .slice none 0 0 := h2
    have hu := tabAll_look undT_ok hu'
    simp [execOp, ho, h1', h2', binOp, eqGuard, SV.c, run_equal_slice_nil w ty e0 _ _ _ hu]
theorem op_fldC {ty f b off k sz : Nat} {x : Operand} (ho : o.op = .fieldAddr ty x f) (hg : o.guard = none) (hd : dstB o.dst C.nt = true) (hx : S.ev x = some (.c (.pointer (some ⟨b, off, none⟩)))) (hk : tabLook fldT (ty * 100 + f) = some (k, sz)) (hz : (decide (f < 100) && decide (sz ≠ 0)) = true) {off' : Nat} (hoff : off + k = off') :
    OpG C Try.prog ops o S ⟨opT x, [], dw o.dst (.c (.pointer (some ⟨b, off', none⟩))), [], []⟩ := by
  subst hoff
  simp only [Bool.and_eq_true, decide_eq_true_eq] at hz
  have hkk := tabAll_look fldT_ok hk
  obtain ⟨fs, fd, hu, hf, h1, h2⟩ := hkk
  rw [show (ty * 100 + f) / 100 = ty by omega] at hu
  rw [show (ty * 100 + f) % 100 = f by omega] at hf
  simp only at h1
  subst h1
  refine op_one (v := .c (.pointer (some ⟨b, off + fd.offset, none⟩))) hg hd hx fun e ρ w h1 => ?_
  have h1' : ρ x = .pointer (some ⟨b, off, none⟩) := h1
  have hs : (sizeOf fd.type).run Try.prog w = .ok sz w := by
    cases hq : Try.prog.info? fd.type with
    | none => simp [hq] at h2
    | some i =>
      have hi : i.size = sz := by simpa [hq] using h2
      simp [sizeOf, typeInfo, hq, hi]
  simp only [execOp, ho, h1', Instr.fieldAt, fieldPlace, Sem.run_bind, run_underlying hu w, Result.andThen_ok, hf, Sem.run_pure, Instr.sureAddr, Sem.run_ite, hs, if_neg hz.2, add_place]
  rfl
theorem op_ldC {ty : TypeId} {x : Operand} {b off : Nat} {xs : Array Value} {T : TypeId} {u : Value} {d : TypeDesc} (ho : o.op = .load ty x) (hg : o.guard = none) (hd : dstB o.dst C.nt = true) (hx : S.ev x = some (.c (.pointer (some ⟨b, off, none⟩)))) (hm : C.m = []) (hB : Blk C.w0 b xs T) (hu' : tabLook undT ty = some d) (hda : d.isRow = false) (hv : xs[off]? = some u) :
    OpG C Try.prog ops o S ⟨opT x, [], dw o.dst (.c u), [], []⟩ := by
  have hc : C.w0.cell? ⟨b, off, none⟩ = some u := (cell_of_row C.w0 b off xs T (0, 0) hB).trans hv
  have hlt := World.block_lt_of_cell? C.w0 ⟨b, off, none⟩ hc
  exact op_loado ho hg hd hx hu' hda hlt (by rw [hm]; simp) hc
theorem op_ldCR {ty : TypeId} {x : Operand} {b off m : Nat} {xs : Array Value} {T : TypeId} {A : SA} {d : TypeDesc} (ho : o.op = .load ty x) (hg : o.guard = none) (hd : dstB o.dst C.nt = true) (hx : S.ev x = some (.c (.pointer (some ⟨b, off, none⟩)))) (hm0 : C.m = []) (hB : Blk C.w0 b xs T) (hu' : tabLook undT ty = some d) (hda : d.isRow = true) (hi' : tabLook sizT ty = some m) (hm : off + m ≤ xs.size) (hA : ∀ e, A.den e = ((xs.toList.drop off).take m).toArray) (hAs : A.sup = []) :
    OpG C Try.prog ops o S ⟨opT x, [], dw o.dst (.row A), [], []⟩ := by
  have hu := tabAll_look undT_ok hu'
  have hi := tabAll_look sizT_ok hi'
  have hlt : b < C.w0.heap.size := (Array.getElem?_eq_some_iff.1 hB).1
  have := op_value (C := C) (P := Try.prog) (ops := ops) (S := S) hg hd [x] [] (.row A) fun S' e a w hS h1 h2 => by
    have hev : a.eval x = .pointer (some ⟨b, off, none⟩) := hS.ev ((h1 x (by simp)).trans hx)
    have hB' : w.heap[b]? = some (.cells xs T (0, 0)) := (hS.frame.block b hlt (by rw [hm0]; simp)).trans hB
    have hra : w.rangeAt b off ((xs.toList.drop off).take m) := fun j u hj => by
      have hjl : j < m := by have := (List.getElem?_eq_some_iff.1 hj).1; rw [List.length_take] at this; omega
      rw [List.getElem?_take, if_pos hjl, List.getElem?_drop, Array.getElem?_toList] at hj
      exact (cell_of_row w b (off + j) xs T (0, 0) hB').trans hj
    have hl := run_loadVar_mid (P := Try.prog) w b off ty ((xs.toList.drop off).take m) d hra hu hda (by rw [hi, List.length_take, List.length_drop, Array.length_toList]; congr 1; omega)
    have hden : (SV.row A).den e = .agg (((xs.toList.drop off).take m).toArray) := by rw [← hA e]; rfl
    rw [hden]
    simp [execOp, ho, hev, Instr.loadAt, Instr.sureAddr, Sem.run_bind, hl]
  have hs : (SV.row A).sup = [] := hAs
  simpa [hs] using this
theorem op_appendL {x y : Operand} {t T size len cnt by_ m n : Nat} {xs news : List Value} {A : Array Value} {v : Value} {ty : TypeId} {pos : String} {after : Array Edge} (hd : dstB (some n) C.nt = true) (hx : S.ev x = some (.v m)) (hr : S.res m = some (.own m T size len xs)) (hy : S.ev y = some (.c v))
    (hu' : tabLook undT t = some (.slice T)) (hs' : tabLook sizT T = some size) (hy' : tabLook bytT T = some by_) (hz' : tabLook zerT T = some A) (hA : A.size = size) (hsz : 0 < size) (hf : RdV C.w0 size v cnt news) (hm : C.m = []) (h1 : ∀ u ∈ news, u.oneCell' = true)
    (hmax : len + cnt ≤ 1099511627776 ∧ (len + cnt) * by_ ≤ 140737488355328) (hmn : Nat.beq m n = false) :
    OpG C Try.prog ops ⟨some n, .call { callee := .builtin .append, args := #[x, y], argTypes := #[t, t] }, ty, pos, after, none⟩ S ⟨opT x ++ opT y, m :: ((SV.c v).sup ++ []), [(n, .v n)], [(m, none), (n, some (.own n T size (len + cnt) (xs ++ news)))], [n]⟩ :=
  op_append hd hx hr hy hu' hs' hy' hz' hA hsz (rdn_old hf hsz hm) h1 hmax hmn
theorem op_build2 {ty T0 q k size len : Nat} {x y : Operand} {xs : List Value} {parts : Array (Nat × Operand)} {f0 f1 : Field} {Z : Array Value} {A : SA} (ho : o.op = .build ty parts) (hp : parts = #[(0, x), (1, y)]) (hg : o.guard = none) (hd : dstB o.dst C.nt = true) (hx : S.ev x = some (.row A)) (hy : S.ev y = some (.v q)) (hr : S.res q = some (.own q T0 size len xs))
    (hu' : tabLook undT ty = some (.struct #[f0, f1])) (hs0 : tabLook sizT f0.type = some k) (hs1 : tabLook sizT f1.type = some 1) (ho0 : f0.offset = 0) (ho1 : f1.offset = k) (hz' : tabLook zerT ty = some Z) (hZ : Z.size = k + 1) (hA : ∀ e, (A.den e).size = k) :
    OpG C Try.prog ops o S ⟨opT x ++ opT y, q :: A.sup, dw o.dst (.row (A.app (SA.l [.v q]))), [], []⟩ := by
  subst hp
  have := op_value (C := C) (P := Try.prog) (ops := ops) (S := S) hg hd [x, y] (q :: A.sup) (.row (A.app (SA.l [.v q]))) fun S' e a w hS h1 h2 => by
    have hu := tabAll_look undT_ok hu'
    have hz := tabAll_look zerT_ok hz'
    have hevx : a.eval x = (SV.row A).den e := hS.ev ((h1 x (by simp)).trans hx)
    have hevy : a.eval y = (e q).v := hS.ev ((h1 y (by simp)).trans hy)
    have hevx : a.eval x = .agg (A.den e) := hevx
    have hown := one_own ((h2 q (by simp)).trans hr) S' e a w (C := C) hS (fun _ _ => rfl)
    have hvc : (e q).v.cells = #[(e q).v] := hown.1
    obtain ⟨zv, hz3, hzc⟩ : ∃ zv, (zeroValue ty).run Try.prog w = .ok zv w ∧ zv.cells = Z := by
      cases hb : (Try.prog.info? ty) with
      | none => simp [hb] at hz
      | some i =>
        cases hc : i.zero with
        | none => simp [hb, hc] at hz
        | some zz => exact ⟨zz, by simp [zeroValue, typeInfo, hb, hc], by simpa [hb, hc] using hz⟩
    have hmapA : ((#[f0, f1] : Array Field).mapM fun (f : Field) => do pure (f.offset, ← sizeOf f.type)).run Try.prog w = .ok #[(0, k), (k, 1)] w := by
      rw [Array.mapM_eq_mapM_toList]
      simp only [List.mapM_cons, List.mapM_nil, map_eq_pure_bind, Sem.run_bind, run_sizeT hs0 w, run_sizeT hs1 w, Result.andThen_ok, Sem.run_pure, ho0, ho1]
    have hak : (A.den e).size = k := hA e
    have hsp : Z = #[] ++ Z.extract 0 k ++ Z.extract k (k + 1) := by
      apply Array.ext'
      simp only [Array.toList_append, Array.toList_extract, List.extract_eq_take_drop, List.nil_append, Nat.sub_zero, List.drop_zero, Array.toList_empty]
      rw [show k + 1 - k = 1 by omega]
      have hzl : Z.toList.length = k + 1 := by simpa using hZ
      have : Z.toList.drop k = (Z.toList.drop k).take 1 := by rw [List.take_of_length_le]; rw [List.length_drop]; omega
      rw [← this, List.take_append_drop]
    have hf1 : (A.den e).zipIdx.foldl (fun cs (x : Value × Nat) => cs.setIfInBounds (0 + x.2) x.1) Z = A.den e ++ Z.extract k (k + 1) := by
      conv => lhs; rw [hsp]
      have := fold_set (A.den e).toList 0 #[] (Z.extract 0 k) (Z.extract k (k + 1)) 0 rfl (by simp; omega)
      rw [← Array.foldl_toList, Array.toList_zipIdx]
      simpa using this
    have hl1 : (Z.extract k (k + 1)).size = 1 := by simp; omega
    have hf2 : (#[(e q).v].zipIdx.foldl (fun cs (x : Value × Nat) => cs.setIfInBounds (k + x.2) x.1) (A.den e ++ Z.extract k (k + 1))) = A.den e ++ #[(e q).v] := by
      have := fold_set [(e q).v] k (A.den e) (Z.extract k (k + 1)) #[] 0 (by omega) hl1
      rw [← Array.foldl_toList, Array.toList_zipIdx]
      simpa using this
    have hfill : Instr.fill (fun i => (#[(0, k), (k, 1)] : Array (Nat × Nat))[i]?) Z [(0, a.eval x), (1, a.eval y)] = some (A.den e ++ #[(e q).v]) := by
      have hc1 : ¬ ((A.den e).size ≠ k ∨ 0 + (A.den e).size > Z.size) := by omega
      have hc2 : ¬ ((#[(e q).v] : Array Value).size ≠ 1 ∨ k + (#[(e q).v] : Array Value).size > (A.den e ++ Z.extract k (k + 1)).size) := by
        rw [Array.size_append, hl1, hak]; simp
      rw [Instr.fill]
      dsimp only
      rw [show (#[(0, k), (k, 1)] : Array (Nat × Nat))[0]? = some (0, k) from rfl]
      dsimp only
      rw [hevx, show (Value.agg (A.den e)).cells = A.den e from rfl, if_neg (by simpa using hc1), hf1, Instr.fill]
      dsimp only
      rw [show (#[(0, k), (k, 1)] : Array (Nat × Nat))[1]? = some (k, 1) from rfl]
      dsimp only
      rw [hevy, hvc, if_neg (by simpa using hc2), hf2]
      rfl
    have hden : (SV.row (A.app (SA.l [.v q]))).den e = .agg (A.den e ++ #[(e q).v]) := by
      show Value.agg _ = _
      simp [SA.app, SA.l, SV.v]
    rw [hden]
    have hpa : ((#[(0, x), (1, y)] : Array (Nat × Operand)).map fun (i, x) => (i, a.eval x)).toList = [(0, a.eval x), (1, a.eval y)] := by simp
    simp only [execOp, ho, Instr.build, Sem.run_bind, hz3, Result.andThen_ok, run_underlying hu w, hmapA, hzc, hpa, hfill, Sem.run_pure]
  simpa using this
/-! ### calls of what reads an object -/
theorem callM_B {j : FuncId} {vs : List SV} {u : Value} {b : Nat} {cells : Array Value} {T : TypeId} (hm : C.m = []) (hB : Blk C.w0 b cells T) (h : ∀ (e : Env) w, Blk w b cells T → Calls Try.prog j (vs.map (·.den e)).toArray w fun r w' => r = .returned u ∧ Below w.heap.size w w') : CallM C S [] j vs u := fun S' e a w hS _ =>
  h e w ((hS.frame.block b (Array.getElem?_eq_some_iff.1 hB).1 (by rw [hm]; simp)).trans hB)
theorem callO_L {n q T0 : Nat} {A : SA} {R : Res} {cells0 : Value → Array Value} {K0 : World → Value → Prop} {j : FuncId} {vs : List SV} {T size len : Nat} {xs : List Value} (hr : S.res n = some (.blk n T0 A)) (hq : S.res q = some R) (hR : IsOwn R q K0) (hA : ∀ e, A.den e = cells0 (e q).v)
    (h : ∀ (e : Env) w v, Blk w (e n).b (cells0 v) T0 → K0 w v → Calls Try.prog j (vs.map (·.den e)).toArray w (RetOwn w T size len xs)) : CallO C S [n, q] j vs T size len xs := fun S' e a w hS hx => by
  obtain ⟨fr, hb, hfr⟩ := res_blk hS ((hx n (by simp)).trans hr)
  rw [hfr rfl, hA] at hb
  have hok := hS.res q _ ((hx q (by simp)).trans hq)
  rw [hR.ok] at hok
  exact h e w (e q).v hb hok
theorem callNL_L {n q T0 : Nat} {A : SA} {R : Res} {cells0 : Value → Array Value} {K0 : World → Value → Prop} {j : FuncId} {vs : List SV} {T : Nat} {cells : Value → Array Value} {K : World → Value → Prop} (hr : S.res n = some (.blk n T0 A)) (hq : S.res q = some R) (hR : IsOwn R q K0) (hA : ∀ e, A.den e = cells0 (e q).v)
    (h : ∀ (e : Env) w v, Blk w (e n).b (cells0 v) T0 → K0 w v → Calls Try.prog j (vs.map (·.den e)).toArray w (RetNL w T cells K)) : CallNL C S [n, q] T j vs cells K := fun S' e a w hS hx => by
  obtain ⟨fr, hb, hfr⟩ := res_blk hS ((hx n (by simp)).trans hr)
  rw [hfr rfl, hA] at hb
  have hok := hS.res q _ ((hx q (by simp)).trans hq)
  rw [hR.ok] at hok
  exact h e w (e q).v hb hok
end
theorem rdv_own {w : World} {es : List Ent32} {v : Value} (h : w.ownsRow 0 74 36 v es.length (entsC es)) : RdV w 36 v es.length (entsC es) ∧ ((v = .slice none 0 0 ∧ es = []) ∨ ∃ g c, v = .slice (some ⟨g, 0, none⟩) es.length c) := by
  rcases h.2 with ⟨h1, h2⟩ | ⟨g, cap, cur, h1, _, hg, hn, _, hs, ht⟩
  · have he : es = [] := List.eq_nil_of_length_eq_zero h2
    subst he
    exact ⟨⟨rfl, none, 0, h1, .inl rfl⟩, .inl ⟨h1, rfl⟩⟩
  · refine ⟨⟨h.1, some ⟨g, 0, none⟩, cap, h1, .inr ⟨g, 0, rfl, fun j u hu => ?_⟩⟩, .inr ⟨g, cap, h1⟩⟩
    have hj : j < es.length * 36 := by have := (List.getElem?_eq_some_iff.1 hu).1; rw [h.1] at this; exact this
    rw [Nat.zero_add, cell_of_row w g j cur _ (0, 0) hg, ← Array.getElem?_toList]
    rw [← ht, List.getElem?_take, if_pos hj] at hu
    exact hu
theorem entsC_one (es : List Ent32) : ∀ u ∈ entsC es, u.oneCell' = true := by
  intro u hu
  obtain ⟨e, _, h⟩ := List.mem_flatMap.1 hu
  exact entC_one e u h
attribute [local irreducible] Calls Walk1 WalkTo Tri EndA
theorem cloneE_any (es : List Ent32) (hle : es.length ≤ 1000) (v : Value) (w : World) (hv : RdV w 36 v es.length (entsC es)) (hc : (v = .slice none 0 0 ∧ es = []) ∨ ∃ g c, v = .slice (some ⟨g, 0, none⟩) es.length c) :
    Calls Try.prog 101 #[v] w (RetOwn w 74 36 es.length (entsC es)) := by
  have hone := entsC_one es
  rcases hc with ⟨rfl, rfl⟩ | ⟨g, c, rfl⟩
  · refine calls_tri Try.func101 rfl Try.ntmps101 rfl ?_
    repeat (first | (show Walk1 _ _ _ (_ :: _) _ _; first | (show Walk1 _ _ _ (⟨_, .move _, _, _, _, _⟩ :: _) _ _; first | refine walk1_t (op_move rfl rfl rfl rfl) ?_) | (show Walk1 _ _ _ (⟨_, .assign _, _, _, _, _⟩ :: _) _ _; first | refine walk1_t (op_assign rfl rfl rfl rfl) ?_) | (show Walk1 _ _ _ (⟨_, .binOp .eql _ _ _ _, _, _, _, _⟩ :: _) _ _; first | refine walk1_t (op_eqNilG rfl rfl rfl rfl rfl rfl) ?_)) | refine tri_seq ?_ | refine tri_block ?_ | refine tri_scope ?_ | refine tri_skip ?_ | refine tri_label ?_ | refine tri_ret ?_ | refine tri_exit ?_ | refine end_seq ?_ | refine end_block_exit ?_ | refine end_block_other rfl ?_ | refine end_block ?_ | refine end_block_ret ?_ | refine end_then_exit ?_ | refine end_then_ret ?_ | refine end_then ?_ | refine end_scope (fun _ h => by cases h) ?_ | refine tri_reg ?_ | refine tri_draw ?_ | refine walk1_end ?_ | (refine walk_endD ?_ ?_; (· kernel_rfl)) | refine tri_yes rfl (by first | omega | (simp <;> fail) | assumption) ?_ | refine tri_no rfl (by first | omega | (simp <;> fail) | assumption) ?_ | refine tri_true rfl (by first | with_reducible rfl | with_reducible exact Bool.not_false | with_reducible assumption) ?_ | refine tri_false rfl (by first | with_reducible rfl | with_reducible exact Bool.not_true | with_reducible assumption) ?_)
    refine end_ent (ent_nil (i := 2) (n := 2) 74 36 rfl (by kernel_rfl)) ?_
    refine end_ret (.v 2) (res_tmp rfl rfl) ?_
    exact fin_own rfl
  · have hes : (valsL .u8 ([] : List (BitVec 8)) ++ entsC es) = entsC es := rfl
    generalize entsC es = X at *
    refine calls_tri Try.func101 rfl Try.ntmps101 rfl ?_
    repeat (first | (show Walk1 _ _ _ (_ :: _) _ _; first | (show Walk1 _ _ _ (⟨_, .move _, _, _, _, _⟩ :: _) _ _; first | refine walk1_t (op_move rfl rfl rfl rfl) ?_) | (show Walk1 _ _ _ (⟨_, .assign _, _, _, _, _⟩ :: _) _ _; first | refine walk1_t (op_assign rfl rfl rfl rfl) ?_) | (show Walk1 _ _ _ (⟨_, .binOp .eql _ _ _ _, _, _, _, _⟩ :: _) _ _; first | refine walk1_t (op_eqNilC rfl rfl rfl rfl rfl rfl) ?_) | (show Walk1 _ _ _ (⟨_, .call ⟨.builtin .append, _, _⟩, _, _, _, _⟩ :: _) _ _; first | refine walk1_g (op_appendL rfl rfl rfl rfl rfl rfl rfl rfl rfl (by decide) (by assumption) rfl (by with_reducible assumption) (by omega) rfl) (by kernel_rfl) ?_) | (show Walk1 _ _ _ (⟨_, .buildSlice _ _ _, _, _, _, _⟩ :: _) _ _; first | refine walk1_n (op_bslice0 (k := .u8) (m := 8) rfl rfl rfl rfl rfl rfl rfl) (by kernel_rfl) ?_)) | refine tri_seq ?_ | refine tri_block ?_ | refine tri_scope ?_ | refine tri_skip ?_ | refine tri_label ?_ | refine tri_ret ?_ | refine tri_exit ?_ | refine end_seq ?_ | refine end_block_exit ?_ | refine end_block_other rfl ?_ | refine end_block ?_ | refine end_block_ret ?_ | refine end_then_exit ?_ | refine end_then_ret ?_ | refine end_then ?_ | refine end_scope (fun _ h => by cases h) ?_ | refine tri_reg ?_ | refine tri_draw ?_ | refine walk1_end ?_ | (refine walk_endD ?_ ?_; (· kernel_rfl)) | refine tri_yes rfl (by first | omega | (simp <;> fail) | assumption) ?_ | refine tri_no rfl (by first | omega | (simp <;> fail) | assumption) ?_ | refine tri_true rfl (by first | with_reducible rfl | with_reducible exact Bool.not_false | with_reducible assumption) ?_ | refine tri_false rfl (by first | with_reducible rfl | with_reducible exact Bool.not_true | with_reducible assumption) ?_)
    rw [hes, Nat.zero_add]
    refine end_ret (.v 7) (res_tmp rfl rfl) ?_
    exact fin_own rfl
theorem chNoneC_any (s : LgS) (v : Value) (w : World) (b : Nat) (hs : s.hd.length = 32) (hB : Blk w b (logC s v) 91) : Calls Try.prog 100 #[.pointer (some ⟨b, 0, none⟩)] w fun r w' => r = .returned (.bool false) ∧ Below w.heap.size w w' := by
  have h33 : (logC s v)[33]? = some (.bool true) := by
    rw [logC, Array.getElem?_append_right (by rw [vals_size, hs]; omega), vals_size, hs]
    rfl
  generalize logC s v = L at *
  refine calls_tri Try.func100 rfl Try.ntmps100 rfl ?_
  repeat (first | (show Walk1 _ _ _ (_ :: _) _ _; first | (show Walk1 _ _ _ (⟨_, _, _, _, _, some _⟩ :: _) _ _; first | refine walk1_yes rfl rfl (by first | exact decide_eq_true (by omega) | exact decide_eq_false (by omega) | rfl | (show _ = true; with_reducible assumption) | (show _ = false; with_reducible assumption) | (simp <;> fail) | omega) ?_) | (show Walk1 _ _ _ (⟨_, .move _, _, _, _, _⟩ :: _) _ _; first | refine walk1_t (op_move rfl rfl rfl rfl) ?_) | (show Walk1 _ _ _ (⟨_, .assign _, _, _, _, _⟩ :: _) _ _; first | refine walk1_t (op_assign rfl rfl rfl rfl) ?_) | (show Walk1 _ _ _ (⟨_, .binOp .eql _ _ _ _, _, _, _, _⟩ :: _) _ _; first | refine walk1_t (op_eqNilPC rfl rfl rfl rfl rfl rfl) ?_) | (show Walk1 _ _ _ (⟨_, .pick _ _ _, _, _, _, _⟩ :: _) _ _; first | refine walk1_t (op_pickN rfl rfl rfl rfl (by first | exact decide_eq_true (by omega) | exact decide_eq_false (by omega) | rfl | (show _ = true; with_reducible assumption) | (show _ = false; with_reducible assumption) | (simp <;> fail) | omega) rfl) ?_) | (show Walk1 _ _ _ (⟨_, .unOp _ _ _, _, _, _, _⟩ :: _) _ _; first | refine walk1_t (op_not rfl rfl rfl rfl) ?_) | (show Walk1 _ _ _ (⟨_, .load _ _, _, _, _, _⟩ :: _) _ _; first | refine walk1_t (op_ldC rfl rfl rfl rfl rfl (by assumption) rfl rfl (by with_reducible assumption)) ?_) | (show Walk1 _ _ _ (⟨_, .nilCheck _, _, _, _, _⟩ :: _) _ _; first | refine walk1_t (op_nilC rfl rfl rfl rfl) ?_) | (show Walk1 _ _ _ (⟨_, .fieldAddr _ _ _, _, _, _, _⟩ :: _) _ _; first | refine walk1_t (op_fldC rfl rfl rfl rfl rfl rfl off_zero) ?_)) | refine tri_seq ?_ | refine tri_block ?_ | refine tri_scope ?_ | refine tri_skip ?_ | refine tri_label ?_ | refine tri_ret ?_ | refine tri_exit ?_ | refine end_seq ?_ | refine end_block_exit ?_ | refine end_block_other rfl ?_ | refine end_block ?_ | refine end_block_ret ?_ | refine end_then_exit ?_ | refine end_then_ret ?_ | refine end_then ?_ | refine end_scope (fun _ h => by cases h) ?_ | refine tri_reg ?_ | refine tri_draw ?_ | refine walk1_end ?_ | (refine walk_endD ?_ ?_; (· kernel_rfl)) | refine tri_yes rfl (by first | omega | (simp <;> fail) | assumption) ?_ | refine tri_no rfl (by first | omega | (simp <;> fail) | assumption) ?_ | refine tri_true rfl (by first | with_reducible rfl | with_reducible exact Bool.not_false | with_reducible assumption) ?_ | refine tri_false rfl (by first | with_reducible rfl | with_reducible exact Bool.not_true | with_reducible assumption) ?_)
  refine end_ret (.c (.bool false)) (res_tmp rfl rfl) ?_
  exact fin_below fun _ => rfl
theorem chEntries_any (s : LgS) (v : Value) (w : World) (b : Nat) (hs : s.ok) (hB : Blk w b (logC s v) 91) (hK : logK s w v) : Calls Try.prog 68 #[.pointer (some ⟨b, 0, none⟩)] w (RetOwn w 74 36 s.es.length (entsC s.es)) := by
  obtain ⟨hR, hc⟩ := rdv_own hK
  have cn := fun w h => chNoneC_any s v w b hs.1 h
  have cc := fun w h => cloneE_any s.es hs.2.1 v w h hc
  have h34 : (logC s v)[34]? = some v := by
    rw [logC, Array.getElem?_append_right (by rw [vals_size, hs.1]; omega), vals_size, hs.1]
    rfl
  generalize logC s v = L at *
  generalize entsC s.es = X at *
  refine calls_tri Try.func68 rfl Try.ntmps68 rfl ?_
  repeat (first | (show Walk1 _ _ _ (_ :: _) _ _; first | (show Walk1 _ _ _ (⟨_, .move _, _, _, _, _⟩ :: _) _ _; first | refine walk1_t (op_move rfl rfl rfl rfl) ?_) | (show Walk1 _ _ _ (⟨_, .assign _, _, _, _, _⟩ :: _) _ _; first | refine walk1_t (op_assign rfl rfl rfl rfl) ?_) | (show Walk1 _ _ _ (⟨_, .load _ _, _, _, _, _⟩ :: _) _ _; first | refine walk1_t (op_ldC rfl rfl rfl rfl rfl (by assumption) rfl rfl (by with_reducible assumption)) ?_) | (show Walk1 _ _ _ (⟨_, .nilCheck _, _, _, _, _⟩ :: _) _ _; first | refine walk1_t (op_nilC rfl rfl rfl rfl) ?_) | (show Walk1 _ _ _ (⟨_, .fieldAddr _ _ _, _, _, _, _⟩ :: _) _ _; first | refine walk1_t (op_fldC rfl rfl rfl rfl rfl rfl off_zero) ?_) | (show Walk1 _ _ _ (⟨_, .call ⟨.value (.func 100), _, _⟩, _, _, _, _⟩ :: _) _ _; first | (refine walk1_callM rfl rfl rfl rfl (by repeat (first | exact evs_nil | apply evs_cons rfl)) rfl ?_; refine ⟨_, _, callM_B rfl hB (fun e w h => cn w h), ?_⟩)) | (show Walk1 _ _ _ (⟨_, .call ⟨.value (.func 101), _, _⟩, _, _, _, _⟩ :: _) _ _; first | (refine walk1_callO rfl rfl rfl rfl (by kernel_rfl) (by repeat (first | exact evs_nil | apply evs_cons rfl)) rfl ?_; refine ⟨_, _, _, _, _, callO_1 (rdn_old hR (by omega) rfl) (fun e w h1 => cc w h1), ?_⟩))) | refine tri_seq ?_ | refine tri_block ?_ | refine tri_scope ?_ | refine tri_skip ?_ | refine tri_label ?_ | refine tri_ret ?_ | refine tri_exit ?_ | refine end_seq ?_ | refine end_block_exit ?_ | refine end_block_other rfl ?_ | refine end_block ?_ | refine end_block_ret ?_ | refine end_then_exit ?_ | refine end_then_ret ?_ | refine end_then ?_ | refine end_scope (fun _ h => by cases h) ?_ | refine tri_reg ?_ | refine tri_draw ?_ | refine walk1_end ?_ | (refine walk_endD ?_ ?_; (· kernel_rfl)) | refine tri_yes rfl (by first | omega | (simp <;> fail) | assumption) ?_ | refine tri_no rfl (by first | omega | (simp <;> fail) | assumption) ?_ | refine tri_true rfl (by first | with_reducible rfl | with_reducible exact Bool.not_false | with_reducible assumption) ?_ | refine tri_false rfl (by first | with_reducible rfl | with_reducible exact Bool.not_true | with_reducible assumption) ?_)
  refine end_ret (.v 9) (res_tmp rfl rfl) ?_
  exact fin_own rfl
theorem chCopy_any (s : LgS) (v : Value) (w : World) (b : Nat) (hs : s.ok) (hB : Blk w b (logC s v) 91) (hK : logK s w v) : Calls Try.prog 64 #[.pointer (some ⟨b, 0, none⟩)] w (RetNL w 91 (logC s) (logK s)) := by
  obtain ⟨hR, hc⟩ := rdv_own hK
  have cn := fun w h => chNoneC_any s v w b hs.1 h
  have cc := fun w h => cloneE_any s.es hs.2.1 v w h hc
  have hsl := hs.1
  have h34 : (logC s v)[34]? = some v := by
    rw [logC, Array.getElem?_append_right (by rw [vals_size, hs.1]; omega), vals_size, hs.1]
    rfl
  have hsz : (logC s v).size = 35 := by simp [logC, vals_size, hs.1]
  have htop : ∀ e, ((SA.c (vals .u8 s.hd)).app (SA.l [SV.c (.int .u32 (bvi s.clk)), SV.c (.bool true)])).den e = (((logC s v).toList.drop 0).take 34).toArray := fun e => by
    have : (logC s v).toList = valsL .u8 s.hd ++ [.int .u32 (bvi s.clk), .bool true] ++ [v] := by simp [logC, vals]
    rw [List.drop_zero, this, List.take_append_of_le_length (by simp [valsL_length, hs.1]), List.take_of_length_le (by simp [valsL_length, hs.1])]
    simp [SA.app, SA.c, SA.l, SV.c, vals]
  have hAz : ∀ e, (((SA.c (vals .u8 s.hd)).app (SA.l [SV.c (.int .u32 (bvi s.clk)), SV.c (.bool true)])).den e).size = 34 := fun e => by
    show (vals .u8 s.hd ++ _).size = 34
    rw [Array.size_append, vals_size, hsl]
    rfl
  have hlc : ∀ q, logC s q = vals .u8 s.hd ++ #[.int .u32 (bvi s.clk), .bool true, q] := fun _ => rfl
  have hKe : logK s = ownK 74 36 s.es.length (entsC s.es) := rfl
  rw [hKe]
  generalize logC s v = L at *
  generalize entsC s.es = X at *
  refine calls_tri Try.func64 rfl Try.ntmps64 rfl ?_
  repeat (first | (show Walk1 _ _ _ (_ :: _) _ _; first | (show Walk1 _ _ _ (⟨_, .move _, _, _, _, _⟩ :: _) _ _; first | refine walk1_t (op_move rfl rfl rfl rfl) ?_) | (show Walk1 _ _ _ (⟨_, .assign _, _, _, _, _⟩ :: _) _ _; first | refine walk1_t (op_assign rfl rfl rfl rfl) ?_) | (show Walk1 _ _ _ (⟨_, .call ⟨.value (.func 100), _, _⟩, _, _, _, _⟩ :: _) _ _; first | (refine walk1_callM rfl rfl rfl rfl (by repeat (first | exact evs_nil | apply evs_cons rfl)) rfl ?_; refine ⟨_, _, callM_B rfl hB (fun e w h => cn w h), ?_⟩))) | (show WalkTo _ _ _ _ (_ :: _) _ _ _; first | (show WalkTo _ _ _ _ (⟨_, .move _, _, _, _, _⟩ :: _) _ _ _; first | refine walk_t (op_move rfl rfl rfl rfl) ?_) | (show WalkTo _ _ _ _ (⟨_, .assign _, _, _, _, _⟩ :: _) _ _ _; first | refine walk_t (op_assign rfl rfl rfl rfl) ?_) | (show WalkTo _ _ _ _ (⟨_, .load _ _, _, _, _, _⟩ :: _) _ _ _; first | refine walk_t (op_ldC rfl rfl rfl rfl rfl (by assumption) rfl rfl (by with_reducible assumption)) ?_ | refine walk_t (op_ldCR rfl rfl rfl rfl rfl (by assumption) rfl rfl rfl (by first | omega | decide) (by with_reducible assumption) rfl) ?_) | (show WalkTo _ _ _ _ (⟨_, .nilCheck _, _, _, _, _⟩ :: _) _ _ _; first | refine walk_t (op_nilC rfl rfl rfl rfl) ?_) | (show WalkTo _ _ _ _ (⟨_, .box _ _, _, _, _, _⟩ :: _) _ _ _; first | refine walk_n (op_box rfl rfl rfl rfl rfl) (by kernel_rfl) ?_) | (show WalkTo _ _ _ _ (⟨_, .fieldAddr _ _ _, _, _, _, _⟩ :: _) _ _ _; first | refine walk_t (op_fldC rfl rfl rfl rfl rfl rfl off_zero) ?_) | (show WalkTo _ _ _ _ (⟨_, .build _ _, _, _, _, _⟩ :: _) _ _ _; first | refine walk_t (op_build2 rfl rfl rfl rfl rfl rfl rfl rfl rfl rfl rfl rfl rfl rfl (by with_reducible assumption)) ?_) | (show WalkTo _ _ _ _ (⟨_, .call ⟨.value (.func 101), _, _⟩, _, _, _, _⟩ :: _) _ _ _; first | (refine walk_callO rfl rfl rfl rfl (by kernel_rfl) (by repeat (first | exact evs_nil | apply evs_cons rfl)) rfl ?_; refine ⟨_, _, _, _, _, callO_1 (rdn_old hR (by omega) rfl) (fun e w h1 => cc w h1), ?_⟩))) | refine tri_seq ?_ | refine tri_block ?_ | refine tri_scope ?_ | refine tri_skip ?_ | refine tri_label ?_ | refine tri_ret ?_ | refine tri_exit ?_ | refine end_seq ?_ | refine end_block_exit ?_ | refine end_block_other rfl ?_ | refine end_block ?_ | refine end_block_ret ?_ | refine end_then_exit ?_ | refine end_then_ret ?_ | refine end_then ?_ | refine end_scope (fun _ h => by cases h) ?_ | refine tri_reg ?_ | refine tri_draw ?_ | refine walk1_end ?_ | (refine walk_endD ?_ ?_; (· kernel_rfl)) | refine tri_yes rfl (by first | omega | (simp <;> fail) | assumption) ?_ | refine tri_no rfl (by first | omega | (simp <;> fail) | assumption) ?_ | refine tri_true rfl (by first | with_reducible rfl | with_reducible exact Bool.not_false | with_reducible assumption) ?_ | refine tri_false rfl (by first | with_reducible rfl | with_reducible exact Bool.not_true | with_reducible assumption) ?_)
  refine end_ret _ (res_tmp rfl rfl) ?_
  exact fin_newL (q := 13) rfl rfl isOwn_own rfl (fun _ => by rw [hlc]; simp [SA.app, SA.c, SA.l, SV.c]; rfl)
end Go.Proofs.Ytkdflpdemoaifaa
namespace Go.Proofs.Ytkdflpdemoaifaa
open Go.RowKit
set_option maxRecDepth 100000
set_option maxHeartbeats 4000000
section
variable {C : Ctx} {ops : Array Oper} {S : St} {o : Oper}
/-- Some cells of a block whose cells are known. -/
theorem op_loadsK {ty : TypeId} {x : Operand} {n off : Nat} {T : TypeId} {a a' : Array Value} {wr : Bool} {d : TypeDesc} {m : Nat} (ho : o.op = .load ty x) (hg : o.guard = none) (hd : dstB o.dst C.nt = true) (hx : S.ev x = some (.p n off)) (hr : S.res n = some (.blk n T (.c a) wr))
    (hu' : tabLook undT ty = some d) (hda : d.isRow = true) (hi' : tabLook sizT ty = some m) (hs : Sub (.c a) off m (.c a')) : OpG C Try.prog ops o S ⟨opT x, n :: (SV.c (.agg a')).sup, dw o.dst (.c (.agg a')), [], []⟩ :=
  op_loadsM ho hg hd hx hr hu' hda hi' hs (fun _ => rfl)
/-- The first ones of an own slice of rows. -/
theorem op_cutV0 {t T : TypeId} {x : Operand} {n hi sz len : Nat} {T0 : TypeId} {xs : List Value} {ol oh : Option Operand} (ho : o.op = .slice t x ol oh none) (hg : o.guard = none) (hd : dstB o.dst C.nt = true) (hx : S.ev x = some (.v n)) (hr : S.res n = some (.own n T0 sz len xs)) (hu' : tabLook undT t = some (.slice T)) (hs' : tabLook sizT T = some sz) (hl : ol = none) (hh : EvO S oh len hi) (h2 : hi ≤ len) :
    OpG C Try.prog ops o S ⟨opT x ++ (opO ol ++ opO oh), [n], dw o.dst (.sub n 0 hi), [], []⟩ := by
  subst hl
  refine op_cut (sz := sz) ho hg hd hx hu' hs' evO_none hh (Nat.zero_le _) (fun S' e a w hq hS => ?_) rfl
  have hok : w.ownsRow 0 T0 sz (e n).v len xs := hS.res n _ ((hq n (by simp)).trans hr)
  rcases hok.2 with ⟨h3, h4⟩ | ⟨g, cap, cur, h3, _, _, h5, _⟩
  · refine ⟨none, 0, by rw [show (SV.v n).den e = (e n).v from rfl, h3, h4], by omega, ?_⟩
    show cutV (e n).v 0 hi = _
    rw [h3]; simp [cutV]
  · refine ⟨some ⟨g, 0, none⟩, cap, h3, by omega, ?_⟩
    show cutV (e n).v 0 hi = _
    rw [h3]; simp [cutV]
theorem rdn_subZ {n sz : Nat} {T : TypeId} {len cnt : Nat} {xs : List Value} (hr : S.res n = some (.own n T sz len xs)) (hc : cnt ≤ len) : RdN C S [n] sz (.sub n 0 cnt) cnt (xs.take (cnt * sz)) := by
  intro S' e a w h hS
  have hok : w.ownsRow 0 T sz (e n).v len xs := hS.res n _ ((h n (by simp)).trans hr)
  have hm := Nat.mul_le_mul_right sz hc
  refine ⟨by rw [List.length_take, hok.1]; omega, ?_⟩
  show ∃ a c, cutV (e n).v 0 cnt = .slice a cnt c ∧ _
  rcases hok.2 with ⟨h1, h2⟩ | ⟨g, cap, cur, h1, _, h3, _, _, _, h4⟩
  · rw [h1]; exact ⟨_, _, rfl, .inl (by omega)⟩
  · rw [h1]
    refine ⟨_, _, rfl, ?_⟩
    by_cases hcl : cap = 0
    · left; omega
    · right
      refine ⟨g, 0, by rw [if_neg hcl]; rfl, fun j u hu => ?_⟩
      rw [List.getElem?_take] at hu
      split at hu
      · rename_i hj
        rw [← h4, List.getElem?_take] at hu
        split at hu
        · rw [Nat.zero_add, cell_of_row w g j cur T (0, 0) h3, ← Array.getElem?_toList]
          exact hu
        · cases hu
      · cases hu
end
/-! ### an entry is like itself -/
theorem eqFields_refl {P : Program} (d : Nat) (xs : Array Value) (w : World) : ∀ (fs : List Field), (∀ f ∈ fs, ∃ u, (part f.type xs f.offset).run P w = .ok u w ∧ (Op.equalIn d f.type u u).run P w = .ok true w) → (Op.eqFields d xs xs fs).run P w = .ok true w
  | [], _ => by simp [Op.eqFields]
  | f :: fs, h => by
    obtain ⟨u, h1, h2⟩ := h f (by simp)
    have ih := eqFields_refl d xs w fs fun g hg => h g (by simp [hg])
    rw [Op.eqFields]
    split
    · simp only [Sem.run_bind, h1, Result.andThen_ok, h2, Bool.not_true, Bool.false_eq_true, if_false]
      exact ih
    · exact ih
theorem part_one {P : Program} {w : World} {t : TypeId} {k : IntKind} {xs : Array Value} {off : Nat} {v : Value} (ht : P.underlying t = some (.int k)) (hx : xs[off]? = some v) : (part t xs off).run P w = .ok v w := by
  simp [part, isAgg, run_underlying ht, hx]
theorem part_arr {P : Program} {w : World} {t e : TypeId} {n m : Nat} {xs : Array Value} {off : Nat} (ht : P.underlying t = some (.array n e)) (hs : (sizeOf t).run P w = .ok m w) : (part t xs off).run P w = .ok (.agg (xs.extract off (off + m))) w := by
  simp [part, isAgg, run_underlying ht, hs]
theorem entC_sum (e : Ent32) (h : e.ok) : (entC e).toArray.extract 4 36 = vals .u8 e.sum := by
  apply Array.ext'
  have hl : (valsL .u8 e.sum).length = 32 := by rw [valsL_length]; exact h.2.2.2
  simp only [Array.toList_extract, List.extract_eq_take_drop, entC, vals]
  rw [List.drop_append_of_le_length (by simp)]
  simp [hl]
  exact List.take_of_length_le (by omega)
theorem ent_sub (e : Ent32) (h : e.ok) : Sub (.c (entC e).toArray) 4 32 (.c (vals .u8 e.sum)) := fun _ => ⟨#[.int .i64 e.seq, .int .u32 (bvi e.clk), .int .i64 e.who, .int .i64 e.err], #[], by simp [SA.c, entC, vals], rfl, by show (vals .u8 e.sum).size = 32; rw [vals_size]; exact h.2.2.2⟩
theorem eqE_refl (e : Ent32) (he : e.ok) (w : World) : (Op.equalIn 10000 74 (.agg (entC e).toArray) (.agg (entC e).toArray)).run Try.prog w = .ok true w := by
  have hu := Try.underlying74
  have hfo : Try.prog.underlying 74 = some (.struct (Try.prog.fieldsOf 74)) := by simp [Program.fieldsOf, hu]
  rw [run_equalIn_struct w 9999 74 _ _ hfo (by kernel_rfl)]
  refine eqFields_refl 9999 _ w _ fun f hf => ?_
  simp only [Program.fieldsOf, hu, List.mem_cons, List.not_mem_nil, or_false] at hf
  rcases hf with rfl | rfl | rfl | rfl | rfl
  · exact ⟨_, part_one Try.underlying3 (show (entC e).toArray[0]? = some (.int .i64 e.seq) from rfl), by rw [run_equalIn_int w 9998 _ _ _ _ _ Try.underlying3]; simp⟩
  · exact ⟨_, part_one Try.underlying22 (show (entC e).toArray[1]? = some (.int .u32 (bvi e.clk)) from rfl), by rw [run_equalIn_int w 9998 _ _ _ _ _ Try.underlying22]; simp⟩
  · exact ⟨_, part_one Try.underlying3 (show (entC e).toArray[2]? = some (.int .i64 e.who) from rfl), by rw [run_equalIn_int w 9998 _ _ _ _ _ Try.underlying3]; simp⟩
  · exact ⟨_, part_one Try.underlying62 (show (entC e).toArray[3]? = some (.int .i64 e.err) from rfl), by rw [run_equalIn_int w 9998 _ _ _ _ _ Try.underlying62]; simp⟩
  · refine ⟨_, part_arr (m := 32) Try.underlying29 (by kernel_rfl), ?_⟩
    rw [entC_sum e he, run_equalIn_arr w 9997 29 5 32 8 .u8 .u8 Try.underlying29 Try.underlying5 (by kernel_rfl) e.sum e.sum he.2.2.2 he.2.2.2]
    simp
/-! ### a log's states -/
def sK (layer : Int) (D : List Ent32) : Nat → LgS
  | 0 => newS layer
  | j + 1 => match D[j]? with
    | some e => addS (sK layer D j) (mkE (sK layer D j) e.clk e.who e.err e.sum)
    | none => sK layer D j
theorem sK_next (layer : Int) (D : List Ent32) (j : Nat) (e : Ent32) (h : D[j]? = some e) : sK layer D (j + 1) = addS (sK layer D j) (mkE (sK layer D j) e.clk e.who e.err e.sum) := by rw [sK, h]
theorem goodE_app (es x : List Ent32) : ∀ j, j ≤ es.length → goodE (es ++ x) j = goodE es j
  | 0, _ => rfl
  | j + 1, h => by
    have hj : j < es.length := h
    rw [goodE, goodE, goodE_app es x j (by omega), List.getElem?_append_left hj, List.getElem?_eq_getElem hj]
    simp only
    congr 1
    have hd : (es ++ x).getD (j - 1) es[j] = es.getD (j - 1) es[j] := by
      rw [List.getD_eq_getElem?_getD, List.getD_eq_getElem?_getD, List.getElem?_append_left (by omega)]
    unfold okE
    rw [hd]
theorem sK_props (layer : Int) (D : List Ent32) (hD : ∀ e ∈ D, e.ok) (hl : D.length ≤ 1000) : ∀ j, j ≤ D.length → (sK layer D j).ok ∧ (sK layer D j).es.length = j ∧ (sK layer D j).hd = headL (startL layer) (sK layer D j).es ∧ goodE (sK layer D j).es j = true ∧ ((j = 0 ∧ (sK layer D j).clk = 0#32) ∨ ∃ p, (sK layer D j).es[j - 1]? = some p ∧ (sK layer D j).clk = p.clk)
  | 0, _ => ⟨⟨startL_length layer, by show 0 ≤ 1000; omega, fun e he => by cases he⟩, rfl, rfl, rfl, .inl ⟨rfl, rfl⟩⟩
  | j + 1, h => by
    obtain ⟨ok, hlen, hhd, hg, hc⟩ := sK_props layer D hD hl j (by omega)
    obtain ⟨e, he⟩ : ∃ e, D[j]? = some e := ⟨_, List.getElem?_eq_getElem h⟩
    have heok := hD e (List.mem_of_getElem? he)
    rw [sK_next layer D j e he]
    generalize sK layer D j = s at *
    have hmk : (mkE s e.clk e.who e.err e.sum).ok := ⟨by constructor <;> (show _; simp only [mkE]; omega), heok.2.1, heok.2.2.1, heok.2.2.2⟩
    refine ⟨⟨nextL_length _ _, ?_, ?_⟩, ?_, ?_, ?_, .inr ⟨mkE s e.clk e.who e.err e.sum, ?_, rfl⟩⟩
    · show (s.es ++ [_]).length ≤ 1000
      rw [List.length_append]; simp; omega
    · intro x hx
      rcases List.mem_append.1 hx with h1 | h1
      · exact ok.2.2 x h1
      · rw [List.mem_singleton] at h1; rw [h1]; exact hmk
    · show (s.es ++ [_]).length = j + 1
      rw [List.length_append, hlen]; rfl
    · show nextL s.hd _ = headL (startL layer) (s.es ++ [_])
      rw [hhd]
      unfold headL
      rw [List.foldl_append]
      rfl
    · show goodE (s.es ++ [mkE s e.clk e.who e.err e.sum]) (j + 1) = true
      rw [goodE, goodE_app _ _ j (by omega), hg, List.getElem?_append_right (by omega), hlen, Nat.sub_self]
      simp only [Bool.true_and, List.getElem?_cons_zero]
      have h1 : decide ((mkE s e.clk e.who e.err e.sum).seq = (j : Int)) = true := decide_eq_true (by simp only [mkE]; omega)
      rw [okE, h1, Bool.true_and]
      rcases hc with ⟨h0, _⟩ | ⟨p, hp, hpc⟩
      · rw [decide_eq_true h0]; rfl
      · have h0 : ¬ j = 0 := fun h0 => by
          subst h0
          have := (List.getElem?_eq_some_iff.1 hp).1
          omega
        have hd : (s.es ++ [mkE s e.clk e.who e.err e.sum]).getD (j - 1) (mkE s e.clk e.who e.err e.sum) = p := by
          rw [List.getD_eq_getElem?_getD, List.getElem?_append_left (by omega), hp]; rfl
        rw [hd, decide_eq_false h0, Bool.false_or, Bool.not_eq_true', decide_eq_false_iff_not]
        simp only [mkE, hpc]
        split <;> omega
    · show (s.es ++ [_])[j + 1 - 1]? = _
      rw [List.getElem?_append_right (by omega), hlen]
      simp
theorem goodE_take (es : List Ent32) (k : Nat) (hk : k ≤ es.length) (h : goodE es es.length = true) : goodE (es.take k) k = true := by
  have h1 : goodE es k = goodE (es.take k) k := by
    conv => lhs; rw [← List.take_append_drop k es]
    exact goodE_app _ _ k (by rw [List.length_take]; omega)
  rw [← h1]
  have mono : ∀ j, goodE es (k + j) = true → goodE es k = true := by
    intro j
    induction j with
    | zero => exact id
    | succ j ih =>
      intro hh
      rw [show k + (j + 1) = (k + j) + 1 by omega, goodE, Bool.and_eq_true] at hh
      exact ih hh.1
  exact mono (es.length - k) (by rw [show k + (es.length - k) = es.length by omega]; exact h)
end Go.Proofs.Ytkdflpdemoaifaa
