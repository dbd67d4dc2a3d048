/- Slices of rows made, filled from one that lay there; a struct built of an own slice. No condition. -/
import Derived.Test.YtgjlpnendljcaaaSymX
import Derived.Laws.CopyRow
namespace Go.Proofs.Ytgjlpnendljcaaa
open Go.RowKit
set_option maxRecDepth 100000
set_option maxHeartbeats 1000000
variable {C : Ctx} {ops : Array Oper} {S : St} {o : Oper}
theorem run_copy_rows {P : Program} (w : World) (dT sT ty elem : TypeId) (g dLen dCap : Nat) (a : Addr) (sLen sCap sz : Nat) (cur : Array Value) (t : TypeId) (cs : List Value)
    (hu : P.underlying dT = some (.slice elem)) (hs : (P.info? elem).map (·.size) = some sz)
    (hg : w.heap[g]? = some (.cells cur t (0, 0))) (hle : sLen ≤ dLen) (hn : cs.length = sLen * sz)
    (hsrc : ∀ j v, cs[j]? = some v → w.cell? (a.add j) = some v) (hfit : cs.length ≤ cur.size) (h1 : ∀ v ∈ cs, v.oneCell' = true) :
    (Builtin.copy_ #[dT, sT] ty #[.slice (some ⟨g, 0, none⟩) dLen dCap, .slice (some a) sLen sCap]).run P w =
      .ok (goInt sLen) (w.setRow g (cs ++ cur.toList.drop cs.length).toArray) := by
  have hl := run_firstCells_some (P := P) w sz sLen a sLen sCap cs hn hsrc
  have hst := run_storeCells_at P g 0 t cs 0 cur w hg (by simpa using hfit) h1
  cases hq : P.info? elem with
  | none => simp [hq] at hs
  | some i =>
    have hi : i.size = sz := by simpa [hq] using hs
    simp [Builtin.copy_, run_underlying hu, Builtin.lenOf, sizeOf, typeInfo, hq, hi, Nat.min_eq_left hle, hl, hst]
theorem op_copyO {dst : Option Tmp} {x y : Operand} {t sT T ty : TypeId} {pos : String} {after : Array Edge} {q len n sz : Nat} {T0 : TypeId} {xs ys : List Value} {v : Value}
    (hd : dstB dst C.nt = true) (hx : S.ev x = some (.v q)) (hr : S.res q = some (.own q T0 sz len xs)) (hy : S.ev y = some (.c v)) (hm0 : C.m = []) (hf : RdV C.w0 sz v n ys) (hu' : tabLook undT t = some (.slice T)) (hs' : tabLook sizT T = some sz) (hle : n ≤ len) (h1 : ∀ u ∈ ys, u.oneCell' = true) :
    OpG C Try.prog ops ⟨dst, .call { callee := .builtin .copy, args := #[x, y], argTypes := #[t, sT] }, ty, pos, after, none⟩ S ⟨opT x ++ opT y, [q], dw dst (.c (.int .i64 ((n : Nat) : Int))), [(q, some (.own q T0 sz len (ys ++ xs.drop (n * sz))))], []⟩ := by
  refine opG_mk rfl fun S' g1 g2 g3 e a w hS => ?_
  have hevx : a.eval x = (e q).v := hS.ev ((ev_like g1 fun _ h => List.mem_append_left _ h).trans hx)
  have hevy : a.eval y = v := hS.ev ((ev_like g1 fun _ h => List.mem_append_right _ h).trans hy)
  have hu := tabAll_look undT_ok hu'
  have hs := tabAll_look sizT_ok hs'
  have hr' := (g2 q (by simp)).trans hr
  have hok : w.ownsRow 0 T0 sz (e q).v len xs := hS.res q _ hr'
  obtain ⟨hyl, ad, c, rfl, hrr⟩ := hf
  have hmine : ∀ b, (e q).v.ownBlock = some b → C.mine b := fun b hb => hS.mine q _ hr' rfl b hb
  have hnm := Nat.mul_le_mul_right sz hle
  by_cases hn0 : n = 0
  · subst hn0
    have hy0 : ys = [] := List.eq_nil_of_length_eq_zero (by omega)
    subst hy0
    have hrun : (Builtin.copy_ #[t, sT] ty #[(e q).v, .slice ad 0 c]).run Try.prog w = .ok (goInt 0) w := by
      cases hq : Try.prog.info? T with
      | none => simp [hq] at hs
      | some i =>
        rcases hok.2 with ⟨h3, h4⟩ | ⟨g, cap, cur, h3, _⟩
        · rw [h3]
          cases ad <;> simp [Builtin.copy_, run_underlying hu, Builtin.lenOf, Builtin.firstCells, sizeOf, typeInfo, hq, loadCells, loadCellsFrom]
        · rw [h3]
          cases ad <;> simp [Builtin.copy_, run_underlying hu, Builtin.lenOf, Builtin.firstCells, sizeOf, typeInfo, hq, storeCells, loadCells, loadCellsFrom]
    have hself : ([] : List Value) ++ xs.drop (0 * sz) = xs := by simp
    rw [hself]
    have hop : (execOp a.eval ⟨dst, .call { callee := .builtin .copy, args := #[x, y], argTypes := #[t, sT] }, ty, pos, after, none⟩).run Try.prog w = .ok (.value (.int .i64 ((0 : Nat) : Int))) w := by
      simp only [execOp, resolve, invoke, builtin, Sem.run_bind, Sem.run_pure, Result.andThen_ok, List.map_toArray, List.map_cons, List.map_nil, hevx, hevy, hrun]
      rfl
    refine wp_value hop ⟨e, ?_⟩
    have hl : Holds C ⟨S'.t, (q, some (.own q T0 sz len xs)) :: S'.h⟩ e a w := by
      refine hS.like ⟨fun _ => rfl, fun k => ?_⟩
      rw [St.res_cons]
      split
      · rename_i he; subst he; exact hr'.symm
      · rfl
    exact hl.put hd (.c (.int .i64 ((0 : Nat) : Int)))
  · rcases hrr with h0 | ⟨b, o2, rfl, hrr⟩
    · exact absurd h0 hn0
    rcases hok.2 with ⟨h3, h4⟩ | ⟨g, cap, cur, hev, _, hb, hnc, hcm, hcs, htk⟩
    · omega
    have hmul := Nat.mul_le_mul_right sz hnc
    have hsrc : ∀ j u, ys[j]? = some u → w.cell? ((⟨b, o2, none⟩ : Addr).add j) = some u := fun j u hu => by
      rw [add_place]
      have hc := hrr j u hu
      have hlt := World.block_lt_of_cell? C.w0 ⟨b, o2 + j, none⟩ hc
      rw [World.cell?_of_block (hS.frame.block b hlt (by rw [hm0]; simp))]
      exact hc
    have hrun := run_copy_rows (P := Try.prog) w t sT ty T g len cap ⟨b, o2, none⟩ n c sz cur T0 ys hu hs hb hle hyl hsrc (by omega) h1
    have hg0 : (e q).v.ownBlock = some g := by rw [hev]; rfl
    have hop : (execOp a.eval ⟨dst, .call { callee := .builtin .copy, args := #[x, y], argTypes := #[t, sT] }, ty, pos, after, none⟩).run Try.prog w = .ok (.value (.int .i64 ((n : Nat) : Int))) (w.setRow g (ys ++ cur.toList.drop ys.length).toArray) := by
      simp only [execOp, resolve, invoke, builtin, Sem.run_bind, Sem.run_pure, Result.andThen_ok, List.map_toArray, List.map_cons, List.map_nil, hevx, hevy, hev, hrun]
      rfl
    have hxl : xs.length = len * sz := hok.1
    have hnew : (w.setRow g (ys ++ cur.toList.drop ys.length).toArray).ownsRow 0 T0 sz (e q).v len (ys ++ xs.drop (n * sz)) := by
      refine ⟨by rw [List.length_append, List.length_drop]; omega, .inr ⟨g, cap, _, hev, Nat.zero_le _, setRow_heap w g cur _ T0 (0, 0) hb, hnc, hcm, ?_, ?_⟩⟩
      · simp; omega
      · show (ys ++ cur.toList.drop ys.length).take (len * sz) = _
        rw [List.take_append, List.take_of_length_le (by omega), ← htk, hyl, List.drop_take]
    have hsz : (w.setRow g (ys ++ cur.toList.drop ys.length).toArray).heap.size = w.heap.size := by simp [World.setRow]
    refine wp_value hop ⟨e, ?_⟩
    have hl : Holds C ⟨S'.t, (q, some (.own q T0 sz len (ys ++ xs.drop (n * sz)))) :: S'.h⟩ e a (w.setRow g (ys ++ cur.toList.drop ys.length).toArray) := by
      refine ⟨hS.defers, hS.size, hS.tmp, fun m r h => ?_, fun m r h hw b hb => ?_, fun m k r r' h h' hne hw b hb => ?_, ⟨hS.frame.os, hS.frame.tape, hS.frame.output, by rw [hsz]; exact hS.frame.size, fun k hk hkm => ?_⟩⟩
      · rw [St.res_cons] at h
        split at h
        · cases h; exact hnew
        · rename_i hne
          refine r.loc e w _ (fun b2 hfb => setRow_other w g b2 _ fun he => ?_) (hS.res m r h)
          subst he
          exact hS.sep q m _ r hr' h hne rfl b2 hg0 hfb
      · rw [St.res_cons] at h
        split at h
        · cases h; exact hmine b hb
        · exact hS.mine m r h hw b hb
      · rw [St.res_cons] at h h'
        split at h
        · rename_i h1; cases h; subst h1
          split at h'
          · rename_i h2; exact absurd h2 hne
          · exact hS.sep q k _ r' hr' h' hne rfl b hb
        · split at h'
          · rename_i h2; cases h'; subst h2
            exact hS.sep m q r _ h hr' hne hw b hb
          · exact hS.sep m k r r' h h' hne hw b hb
      · refine (setRow_other w g k _ fun he => ?_).trans (hS.frame.block k hk hkm)
        subst he
        rcases hmine k hg0 with h | h
        · omega
        · exact hkm h
    exact hl.put hd (.c (.int .i64 ((n : Nat) : Int)))
theorem op_makeZ {t T n len by_ sz : Nat} {x y : Operand} {Z : Array Value} (ho : o.op = .makeSlice t x y) (hdn : o.dst = some n) (hg : o.guard = none) (hd : dstB o.dst C.nt = true) (hx : EvN S x len) (hy : EvN S y len) (hu' : tabLook undT t = some (.slice T)) (hs' : tabLook sizT T = some sz) (hy' : tabLook bytT T = some by_) (hz' : tabLook zerT T = some Z) (hlen : len * by_ ≤ 281474976710656 ∧ len ≤ 1099511627776) :
    OpG C Try.prog ops o S ⟨opT x ++ opT y, [], [(n, .v n)], [(n, some (.own n T sz len (madeCells Z (len * sz)).toList))], [n]⟩ := by
  refine opG_mk hg fun S' h1 h2 h3 e a w hS => ?_
  have hevx : a.eval x = .int .i64 ((len : Nat) : Int) := hS.ev ((ev_like h1 fun _ h => List.mem_append_left _ h).trans hx)
  have hevy : a.eval y = .int .i64 ((len : Nat) : Int) := hS.ev ((ev_like h1 fun _ h => List.mem_append_right _ h).trans hy)
  have hu := tabAll_look undT_ok hu'
  have hs := tabAll_look sizT_ok hs'
  have hz := tabAll_look zerT_ok hz'
  have hby := tabAll_look bytT_ok hy'
  cases hb : (Try.prog.info? T) with
  | none => simp [hb] at hz
  | some i =>
    cases hc : i.zero with
    | none => simp [hb, hc] at hz
    | some zz =>
      have hzc : zz.cells = Z := by simpa [hb, hc] using hz
      have his : i.size = sz := by simpa [hb] using hs
      have hib : i.bytes = by_ := by simpa [hb] using hby
      have hr := run_make (P := Try.prog) w t T i zz hu hb hc .i64 .i64 (len : Int) (len : Int) (by omega) (Int.le_refl _) (by rw [hib, ← Int.natCast_mul, Nat.mul_comm]; omega) (by omega)
      simp only [Int.toNat_natCast, his, hzc] at hr
      have hrun : (execOp a.eval o).run Try.prog w = .ok (.value (.slice (some ⟨w.heap.size, 0, none⟩) len len)) (w.alloc (.cells (madeCells Z (len * sz)) T)) := by
        simp only [execOp, ho, hevx, hevy, Sem.run_bind, hr, Result.andThen_ok, Sem.run_pure]
      have hown := World.ownsRow_lit (base := w.heap.size) (e := T) (size := sz) w (madeCells Z (len * sz)) len (Nat.le_refl _) (by simp only [maxLen]; omega) (by rw [size_madeCells])
      have hH := hS.ownNew (n := n) (h3 n (by simp)) ((Below.refl _ _).alloc (Nat.le_refl _) _) hown
      refine wp_value hrun ⟨e.set n ⟨0, 0, .slice (some ⟨w.heap.size, 0, none⟩) len len⟩, ?_⟩
      rw [hdn]
      have hd' : dstB (some n) C.nt = true := by rw [← hdn]; exact hd
      have := hH.put hd' (.v n)
      simp only [SV.v, Env.set_self] at this
      exact this
/-- A struct of a number, a truth value and an own slice. -/
theorem op_buildOwn {ty : TypeId} {parts : Array (Nat × Operand)} {x : Operand} {q T0 sz len : Nat} {xs : List Value} {fs : Array Field} {Z : Array Value} (ho : o.op = .build ty parts) (hp0 : parts = #[(1, .const (.bool true)), (2, x)]) (hg : o.guard = none) (hd : dstB o.dst C.nt = true) (hx : S.ev x = some (.v q)) (hr : S.res q = some (.own q T0 sz len xs)) (hu' : tabLook undT ty = some (.struct fs)) (hz' : tabLook zerT ty = some Z) (hZ : Z = #[.int .i64 0, .bool false, .slice none 0 0]) (hss : (fs.all fun f => (tabLook sizT f.type).isSome) = true)
    (h1' : (fs.map fun f => (f.offset, (tabLook sizT f.type).getD 0))[1]? = some (1, 1)) (h2' : (fs.map fun f => (f.offset, (tabLook sizT f.type).getD 0))[2]? = some (2, 1)) :
    OpG C Try.prog ops o S ⟨opT x, [q], dw o.dst (.row (.l [.c (.int .i64 0), .c (.bool true), .v q])), [], []⟩ := by
  subst hp0 hZ
  have := op_value (C := C) (P := Try.prog) (ops := ops) (S := S) hg hd [x] [q] (.row (.l [.c (.int .i64 0), .c (.bool true), .v q])) fun S' e a w hS h1 h2 => by
    have hu := tabAll_look undT_ok hu'
    have hz := tabAll_look zerT_ok hz'
    have hev : a.eval x = (e q).v := hS.ev ((h1 x (by simp)).trans hx)
    have hcl : (e q).v.cells = #[(e q).v] := own_cells (hS.res q _ ((h2 q (by simp)).trans hr))
    obtain ⟨zv, hz3, hzc⟩ : ∃ zv, (zeroValue ty).run Try.prog w = .ok zv w ∧ zv.cells = #[.int .i64 0, .bool false, .slice none 0 0] := by
      cases hb : (Try.prog.info? ty) with
      | none => simp [hb] at hz
      | some i =>
        cases hc : i.zero with
        | none => simp [hb, hc] at hz
        | some zz => exact ⟨zz, by simp [zeroValue, typeInfo, hb, hc], by simpa [hb, hc] using hz⟩
    have hall : ∀ f ∈ fs.toList, ∃ sz, tabLook sizT f.type = some sz := fun f hf => by
      have := Array.all_eq_true_iff_forall_mem.1 hss f (by simpa using hf)
      exact Option.isSome_iff_exists.1 this
    have hmap : ∀ l : List Field, (∀ f ∈ l, ∃ sz, tabLook sizT f.type = some sz) → (l.mapM fun (f : Field) => do pure (f.offset, ← sizeOf f.type)).run Try.prog w = .ok (l.map fun f => (f.offset, (tabLook sizT f.type).getD 0)) w := by
      intro l
      induction l with
      | nil => intro _; rfl
      | cons f l ih =>
        intro h
        obtain ⟨sz, hsz⟩ := h f (by simp)
        simp only [List.mapM_cons, Sem.run_bind, run_sizeT hsz w, Result.andThen_ok, Sem.run_pure, ih fun g hg => h g (by simp [hg]), List.map_cons, hsz, Option.getD_some]
    have hmapA : (fs.mapM fun (f : Field) => do pure (f.offset, ← sizeOf f.type)).run Try.prog w = .ok (fs.map fun f => (f.offset, (tabLook sizT f.type).getD 0)) w := by
      rw [Array.mapM_eq_mapM_toList]
      have e1 : (fs.toList.map fun f => (f.offset, (tabLook sizT f.type).getD 0)).toArray = fs.map fun f => (f.offset, (tabLook sizT f.type).getD 0) := by
        apply Array.ext'; simp
      simp only [map_eq_pure_bind, Sem.run_bind, hmap fs.toList hall, Result.andThen_ok, Sem.run_pure, e1]
    have hc1 : a.eval (.const (.bool true)) = .bool true := rfl
    have hfill : Instr.fill (fun i => (fs.map fun f => (f.offset, (tabLook sizT f.type).getD 0))[i]?) #[.int .i64 0, .bool false, .slice none 0 0] [(1, .bool true), (2, (e q).v)] = some #[.int .i64 0, .bool true, (e q).v] := by
      simp only [Instr.fill, h1', h2', hcl]
      rfl
    simp only [execOp, ho, Instr.build, Sem.run_bind, hz3, Result.andThen_ok, run_underlying hu w, hmapA, hzc, List.map_toArray, List.map_cons, List.map_nil, hev, hc1, hfill, Sem.run_pure]
    rfl
  simpa using this
end Go.Proofs.Ytgjlpnendljcaaa
