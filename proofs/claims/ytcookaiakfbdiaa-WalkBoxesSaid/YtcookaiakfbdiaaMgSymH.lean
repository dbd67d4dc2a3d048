/- More operations of the symbolic walk: bits of numbers that may lie below 0. The symbolic walk of methods: an object that lies behind a pointer, that a call changes or makes. Objects and slices that lie beside them; copies; slices built of many values. No condition. -/
import Derived.Test.YtcookaiakfbdiaaSymG
import Derived.Laws.CopyRow
import Derived.Laws.OwnMore
namespace Go.Proofs.Ytcookaiakfbdiaa
open Go.RowKit
set_option maxRecDepth 100000
variable {C : Ctx} {ops : Array Oper} {S : St} {o : Oper}
section
variable {ty yt : TypeId} {x y : Operand} {k : IntKind} {m : Nat} [hk : Bits k m] {a b : BitVec m}
end
end Go.Proofs.Ytcookaiakfbdiaa
namespace Go.Proofs.Ytcookaiakfbdiaa
open Go.RowKit
set_option maxRecDepth 100000
variable {C : Ctx} {ops : Array Oper} {S : St} {o : Oper}
/-- What lay below is as it was, but for some blocks. -/
structure BelowX (w w' : World) (m : List Nat) : Prop where
  os : w'.os = w.os
  tape : w'.tape = w.tape
  output : w'.output = w.output
  size : w.heap.size ≤ w'.heap.size
  block : ∀ k, k < w.heap.size → k ∉ m → w'.heap[k]? = w.heap[k]?
theorem Ctx.frame.belowX {w : World} (h : C.frame w) : BelowX C.w0 w C.m := ⟨h.os, h.tape, h.output, h.size, h.block⟩
theorem BelowX.of {w w' : World} {m : List Nat} (h : Below w.heap.size w w') : BelowX w w' m := ⟨h.os, h.tape, h.output, h.size, fun k hk _ => h.block k hk⟩
/-- The name stands for this block. -/
def Res.is (n b : Nat) : Res where
  foot _ _ := False
  ok e _ := (e n).b = b
  sup := [n]
  wr := false
  ind e e' h := ⟨rfl, by rw [h n (by simp)]⟩
  loc _ _ _ _ h := h
  lt _ _ _ _ h := h.elim
/-- Handed back: a value; the object's cells are these now, and nothing else that lay there is changed. -/
def RetP (w : World) (b : Nat) (T : TypeId) (cells : Array Value) (v : Value) : Ending → World → Prop := fun r w' => r = .returned v ∧ Blk w' b cells T ∧ BelowX w w' [b]
/-! ### the walk of a method -/
theorem holds_startP {n b : Nat} {args : Array Value} {w : World} {T : TypeId} {A : SA} {cells : Array Value} (h : args.size ≤ n) (h0 : args[0]? = some (.pointer (some ⟨b, 0, none⟩))) (hA : ∀ e, A.den e = cells) (hB : Blk w b cells T) :
    Holds ⟨n, w, [b]⟩ ⟨(0, .p 1000 0) :: idx 0 args.toList, [(1000, some (.blk 1000 T A)), (1001, some (.is 1000 b))]⟩ (fun _ => ⟨b, 0, undef⟩) { tmps := args ++ Array.replicate (n - args.size) undef, defers := [] } w where
  defers := rfl
  size := by simp; omega
  tmp i v hv := by
    have hv' : look ((0, SV.p 1000 0) :: idx 0 args.toList) i = some v := hv
    rw [look_cons] at hv'
    split at hv'
    · rename_i h2; subst h2; cases hv'
      have hi : 0 < args.size := (Array.getElem?_eq_some_iff.1 h0).1
      rw [Array.getElem?_append_left hi]
      exact h0
    · obtain ⟨u, h1, _, rfl⟩ := idx_look args.toList 0 i v hv'
      rw [Nat.sub_zero] at h1
      have hi : i < args.size := by have := (List.getElem?_eq_some_iff.1 h1).1; simpa using this
      rw [Array.getElem?_append_left hi]
      simpa [SV.c] using h1
  res k r hr := by
    rw [St.res_cons] at hr
    split at hr
    · cases hr; exact ⟨(0, 0), by rw [hA]; exact hB, fun _ => rfl⟩
    · rw [St.res_cons] at hr
      split at hr
      · cases hr; rfl
      · cases hr
  mine k r hr hw x hx := by
    rw [St.res_cons] at hr
    split at hr
    · cases hr; exact .inr (by rw [show x = b from hx]; simp)
    · rw [St.res_cons] at hr
      split at hr
      · cases hr; cases hw
      · cases hr
  sep k m r r' hr hr' hne hw x hx hx' := by
    rw [St.res_cons] at hr hr'
    split at hr
    · split at hr'
      · rename_i h1 h2; exact hne (h1.symm.trans h2)
      · rw [St.res_cons] at hr'
        split at hr'
        · cases hr'; exact hx'
        · cases hr'
    · rw [St.res_cons] at hr
      split at hr
      · cases hr; cases hw
      · cases hr
  frame := ⟨rfl, rfl, rfl, Nat.le_refl _, fun _ _ _ => rfl⟩
theorem calls_triP {P : Program} {f : FuncId} {fn : Func} {c : Code} {args : Array Value} {w : World} {R : Ending → World → Prop} {n b : Nat} (T : TypeId) (A : SA) {cells : Array Value} (hf : P.funcs[f]? = some fn) (hb : fn.body = some c) (hn : fn.ntmps = n) (hargs : Nat.ble args.size n = true)
    (h0 : args[0]? = some (.pointer (some ⟨b, 0, none⟩))) (hB : Blk w b cells T) (hA : ∀ e, A.den e = cells)
    (h : Tri ⟨n, w, [b]⟩ P ⟨(0, .p 1000 0) :: idx 0 args.toList, [(1000, some (.blk 1000 T A)), (1001, some (.is 1000 b))]⟩ c (bodyPost P fn R)) : Calls P f args w R := by
  subst hn
  exact calls_of_wp hf hb (h _ _ _ (holds_startP (Nat.le_of_ble_eq_true hargs) h0 hA hB))
theorem fin_obj {v : Value} {V : SV} {w0 : World} {n b : Nat} {T : TypeId} {A : SA} {cells : Array Value} (hr : S.res 1000 = some (.blk 1000 T A)) (hi : S.res 1001 = some (.is 1000 b)) (hA : ∀ e, A.den e = cells) (h : ∀ e, V.den e = v) :
    ∀ e a w, Holds ⟨n, w0, [b]⟩ S e a w → RetP w0 b T cells v (.returned (V.den e)) w := fun e a w hS => by
  obtain ⟨fr, hb, hfr⟩ := res_blk hS hr
  have he : (e 1000).b = b := hS.res 1001 _ hi
  rw [hfr rfl, he, hA] at hb
  exact ⟨by rw [h e], hb, hS.frame.belowX⟩
/-! ### calls of methods -/
theorem Holds.writeX {e : Env} {a : Act} {w w' : World} (hS : Holds C S e a w) {n : Nat} {T : TypeId} {A A' : SA} (hr : S.res n = some (.blk n T A)) (hx : BelowX w w' [(e n).b]) (hn : Blk w' (e n).b (A'.den e) T) : Holds C ⟨S.t, (n, some (.blk n T A')) :: S.h⟩ e a w' := by
  have hm : ∀ b, b = (e n).b → C.mine b := fun b hb => hS.mine n _ hr rfl b hb
  refine ⟨hS.defers, hS.size, hS.tmp, fun m r h => ?_, fun m r h hw b hb => ?_, fun m k r r' h h' hne hw b hb => ?_, ⟨hx.os.trans hS.frame.os, hx.tape.trans hS.frame.tape, hx.output.trans hS.frame.output, Nat.le_trans hS.frame.size hx.size, fun k hk hkm => ?_⟩⟩
  · rw [St.res_cons] at h
    split at h
    · cases h; exact ⟨(0, 0), hn, fun _ => rfl⟩
    · rename_i hne
      refine r.loc e w w' (fun b hb => hx.block b (r.lt e w b (hS.res m r h) hb) fun he => ?_) (hS.res m r h)
      have he : b = (e n).b := by simpa using he
      exact hS.sep n m _ r hr h hne rfl (e n).b rfl (he ▸ hb)
  · rw [St.res_cons] at h
    split at h
    · cases h; exact hm b hb
    · exact hS.mine m r h hw b hb
  · rw [St.res_cons] at h h'
    split at h
    · rename_i h1; cases h; subst h1
      split at h'
      · rename_i h2; exact absurd h2 hne
      · exact hS.sep n k _ r' hr h' hne rfl b hb
    · split at h'
      · rename_i h2; cases h'; subst h2
        exact hS.sep m n r _ h hr hne hw b hb
      · exact hS.sep m k r r' h h' hne hw b hb
  · rw [hx.block k (Nat.lt_of_lt_of_le hk hS.frame.size) ?_]
    · exact hS.frame.block k hk hkm
    · intro he
      have he : k = (e n).b := by simpa using he
      rcases hm k he with h | h
      · exact absurd hk (by omega)
      · exact hkm h
theorem call_hop {S' : St} {e : Env} {a : Act} {w : World} {f j : FuncId} {xs : Array Operand} {ats : Array TypeId} {vs : List SV} (ho : o.op = .call { callee := .value (.func f), args := xs, argTypes := ats }) (hxs : EvS S xs.toList vs) (hc' : tabLook calT f = some j)
    (h1 : ∀ i ∈ xs.toList.flatMap opT, S'.tmp i = S.tmp i) (hS : Holds C S' e a w) : (execOp a.eval o).run Try.prog w = .ok (.enter j (vs.map (·.den e)).toArray) w := by
  have hev : xs.toList.map S'.ev = vs.map some := by
    rw [← show xs.toList.map S.ev = vs.map some from hxs]
    exact List.map_congr_left fun x hx => ev_like h1 fun i hi => List.mem_flatMap.2 ⟨x, hx, hi⟩
  have hargs : xs.map a.eval = (vs.map (·.den e)).toArray := by
    rw [← evs_all hS _ _ hev, ← Array.toList_map, Array.toArray_toList]
  have hcall := tabAll_look calT_ok hc'
  obtain ⟨dst, op, ty, pos, after, guard⟩ := o
  change op = _ at ho
  subst ho
  rw [execOp_call_go]
  simp only [hargs, Array.empty_append, Array.append_empty]
  exact hcall _ w
section
variable {l : List Oper} {t : List (Nat × SV)} {h : List (Nat × Option Res)} {d : Nat} {f j : FuncId} {xs : Array Operand} {ats : Array TypeId} {vs : List SV}
end
theorem upd_cong {A B A' A'' : SA} {off m : Nat} (h : Upd A off m B A') (he : ∀ e, A'.den e = A''.den e) : Upd A off m B A'' := fun e => by
  obtain ⟨pre, old, post, h1, h2, h3, h4, h5⟩ := h e
  exact ⟨pre, old, post, h1, h2, h3, h4, by rw [← he e]; exact h5⟩
theorem upd_here2 {A R x y : SA} {off m : Nat} (h0 : off = 0) (h : Drop A m R) (hb : ∀ e, ((x.app y).den e).size = m) : Upd A off m (x.app y) (x.app (y.app R)) := upd_cong (upd_here' h0 h hb) fun e => by simp [SA.app, Array.append_assoc]
theorem upd_here3 {A R x y z : SA} {off m : Nat} (h0 : off = 0) (h : Drop A m R) (hb : ∀ e, ((x.app (y.app z)).den e).size = m) : Upd A off m (x.app (y.app z)) (x.app (y.app (z.app R))) := upd_cong (upd_here' h0 h hb) fun e => by simp [SA.app, Array.append_assoc]
theorem upd_here4 {A R x y z u : SA} {off m : Nat} (h0 : off = 0) (h : Drop A m R) (hb : ∀ e, ((x.app (y.app (z.app u))).den e).size = m) : Upd A off m (x.app (y.app (z.app u))) (x.app (y.app (z.app (u.app R)))) := upd_cong (upd_here' h0 h hb) fun e => by simp [SA.app, Array.append_assoc]
/-! ### pointers -/
section
variable {x y : Operand} {n off : Nat} {ty yt : TypeId}
theorem op_nilP (ho : o.op = .nilCheck x) (hg : o.guard = none) (hd : dstB o.dst C.nt = true) (hx : S.ev x = some (.p n off)) : OpG C Try.prog ops o S ⟨opT x, [n], dw o.dst (.p n off), [], []⟩ :=
  op_one (v := .p n off) hg hd hx fun e ρ w h1 => by
    have h1' : ρ x = .pointer (some ⟨(e n).b, off, none⟩) := h1
    simp [execOp, ho, h1', SV.p]
theorem op_eqNil {e0 : TypeId} (hu' : tabLook undT ty = some (.pointer e0)) (ho : o.op = .binOp .eql ty x y yt) (hg : o.guard = none) (hd : dstB o.dst C.nt = true) (hx : S.ev x = some (.p n off)) (hy : S.ev y = some (.c (.pointer none))) : OpG C Try.prog ops o S ⟨opT x ++ opT y, [], dw o.dst (.c (.bool false)), [], []⟩ :=
  op_two (v := .c (.bool false)) hg hd hx hy fun e ρ w h1 h2 => by
    have h1' : ρ x = .pointer (some ⟨(e n).b, off, none⟩) := h1
    have h2' : ρ y = .pointer none := h2
    have hu := tabAll_look undT_ok hu'
    have hq : Try.prog.underlying ty = some (.pointer (Try.prog.pointee ty)) := by rw [hu]; simp [Program.pointee, hu]
    simp [execOp, ho, h1', h2', binOp, eqGuard, SV.c, run_equal_pointer_nil w ty _ hq]
end
/-- Two rows, compared. -/
theorem op_neR {x y : Operand} {ty yt : TypeId} {X Y : SV} {xs ys : Array Value} {b : Bool} (hrun : ∀ w, (Op.equalIn 10000 ty (.agg xs) (.agg ys)).run Try.prog w = .ok b w) (ho : o.op = .binOp .neq ty x y yt) (hg : o.guard = none) (hd : dstB o.dst C.nt = true) (hx : S.ev x = some X) (hy : S.ev y = some Y)
    (hX : ∀ e, X.den e = .agg xs) (hY : ∀ e, Y.den e = .agg ys) (hm : Try.prog.eqGuardType Try.prog.depth ty = false) : OpG C Try.prog ops o S ⟨opT x ++ opT y, [], dw o.dst (.c (.bool (!b))), [], []⟩ :=
  op_two (v := .c (.bool (!b))) hg hd hx hy fun e ρ w h1 h2 => by
    have h1' : ρ x = .agg xs := h1.trans (hX e)
    have h2' : ρ y = .agg ys := h2.trans (hY e)
    simp only [execOp, ho, h1', h2', Sem.run_bind, run_eqGuard_agg w _ _ _ _ _ _ hm, Result.andThen_ok, run_neq_struct, hrun, Sem.run_pure]
    rfl
theorem op_eqR {x y : Operand} {ty yt : TypeId} {X Y : SV} {xs ys : Array Value} {b : Bool} (hrun : ∀ w, (Op.equalIn 10000 ty (.agg xs) (.agg ys)).run Try.prog w = .ok b w) (ho : o.op = .binOp .eql ty x y yt) (hg : o.guard = none) (hd : dstB o.dst C.nt = true) (hx : S.ev x = some X) (hy : S.ev y = some Y)
    (hX : ∀ e, X.den e = .agg xs) (hY : ∀ e, Y.den e = .agg ys) (hm : Try.prog.eqGuardType Try.prog.depth ty = false) : OpG C Try.prog ops o S ⟨opT x ++ opT y, [], dw o.dst (.c (.bool b)), [], []⟩ :=
  op_two (v := .c (.bool b)) hg hd hx hy fun e ρ w h1 h2 => by
    have h1' : ρ x = .agg xs := h1.trans (hX e)
    have h2' : ρ y = .agg ys := h2.trans (hY e)
    simp only [execOp, ho, h1', h2', Sem.run_bind, run_eqGuard_agg w _ _ _ _ _ _ hm, Result.andThen_ok, run_eql_struct, hrun, Sem.run_pure]
    rfl
end Go.Proofs.Ytcookaiakfbdiaa
namespace Go.Proofs.Ytcookaiakfbdiaa
open Go.RowKit
set_option maxRecDepth 100000
/-! ### slices that stay, whatever is written into some blocks -/
theorem BelowX.refl (w : World) (m : List Nat) : BelowX w w m := ⟨rfl, rfl, rfl, Nat.le_refl _, fun _ _ _ => rfl⟩
theorem BelowX.trans' {w w' w'' : World} {m : List Nat} (h : BelowX w w' m) (h' : BelowX w' w'' m) : BelowX w w'' m := ⟨h'.os.trans h.os, h'.tape.trans h.tape, h'.output.trans h.output, Nat.le_trans h.size h'.size, fun k hk hm => (h'.block k (Nat.lt_of_lt_of_le hk h.size) hm).trans (h.block k hk hm)⟩
def RdX (w : World) (m : List Nat) (size : Nat) (v : Value) (n : Nat) (xs : List Value) : Prop := ∀ w', BelowX w w' m → RdV w' size v n xs
def FSX (w : World) (m : List Nat) (size : Nat) (v : Value) (n : Nat) (xs : List Value) : Prop := ∀ w', BelowX w w' m → FS w' size v n xs
theorem FSX.fs {w : World} {m : List Nat} {size : Nat} {v : Value} {n : Nat} {xs : List Value} (h : FSX w m size v n xs) : FS w size v n xs := h w (BelowX.refl w m)
theorem FSX.rdx {w : World} {m : List Nat} {size : Nat} {v : Value} {n : Nat} {xs : List Value} (h : FSX w m size v n xs) : RdX w m size v n xs := fun w' hw => (h w' hw).1
theorem RdX.rd {w : World} {m : List Nat} {size : Nat} {v : Value} {n : Nat} {xs : List Value} (h : RdX w m size v n xs) : RdV w size v n xs := h w (BelowX.refl w m)
theorem FSX.cutB {w : World} {m : List Nat} {v : Value} {n : Nat} {k : IntKind} {q : Nat} {l : List (BitVec q)} (h : FSX w m 1 v n (valsL k l)) {lo len : Nat} (hl : lo + len ≤ n) : FSX w m 1 (cutV v lo len) len (valsL k ((l.drop lo).take len)) := fun w' hw => (h w' hw).cutB hl
theorem FSX.later {w w1 : World} {m : List Nat} {size : Nat} {v : Value} {n : Nat} {xs : List Value} (h : FSX w m size v n xs) (hw : BelowX w w1 m) : FSX w1 m size v n xs := fun _ h1 => h _ (hw.trans' h1)
variable {C : Ctx} {ops : Array Oper} {S : St} {o : Oper}
theorem rdn_oldR {v : Value} {size n : Nat} {xs : List Value} (h : RdX C.w0 C.m size v n xs) : RdN C S [] size (.c v) n xs := fun _ _ _ w _ hS => h w hS.frame.belowX
theorem op_loadX {t : TypeId} {x : Operand} {v : Value} {n size : Nat} {xs : List Value} {off : Nat} {u : Value} {d : TypeDesc} (ho : o.op = .load t x) (hg : o.guard = none) (hd : dstB o.dst C.nt = true) (hx : S.ev x = some (.c (ptrV v off))) (hu' : tabLook undT t = some d) (hda : d.isRow = false) (hf : RdX C.w0 C.m size v n xs) (hn : 0 < size) (hv : xs[off]? = some u) :
    OpG C Try.prog ops o S ⟨opT x, [], dw o.dst (.c u), [], []⟩ := by
  obtain ⟨hl, a, c, rfl, hr⟩ := hf.rd
  have hlt : off < xs.length := (List.getElem?_eq_some_iff.1 hv).1
  rcases hr with h | ⟨b, o2, rfl, hr⟩
  · subst h; omega
  · have := op_value (C := C) (P := Try.prog) (ops := ops) (S := S) hg hd [x] [] (.c u) fun S' e a w hS h1 _ => by
      have hev : a.eval x = .pointer (some ⟨b, o2 + off, none⟩) := hS.ev ((h1 x (by simp)).trans hx)
      obtain ⟨_, a', c', hv', hr'⟩ := hf w hS.frame.belowX
      cases hv'
      have hc : w.cell? ⟨b, o2 + off, none⟩ = some u := by
        rcases hr' with h | ⟨b', o', h, hr'⟩
        · subst h; omega
        · cases h; exact hr' off u hv
      have hu := tabAll_look undT_ok hu'
      have hagg : (isAgg t).run Try.prog w = .ok false w := (run_isAgg hu w).trans (by rw [hda])
      simp [execOp, ho, hev, Instr.loadAt, Instr.sureAddr, loadVar, Sem.run_bind, hagg, hc]
      rfl
    simpa using this
/-! ### a copy into a block -/
end Go.Proofs.Ytcookaiakfbdiaa
