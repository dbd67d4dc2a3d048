/- More operations of the symbolic walk: bits of numbers that may lie below 0. The symbolic walk of methods: an object that lies behind a pointer, that a call changes or makes. Objects and slices that lie beside them; copies; slices built of many values. No condition. -/
import Derived.Test.YtcgmapioelfneaaSymG
import Derived.Laws.CopyRow
import Derived.Laws.OwnMore
namespace Go.Proofs.Ytcgmapioelfneaa
open Go.RowKit
set_option maxRecDepth 100000
variable {C : Ctx} {ops : Array Oper} {S : St} {o : Oper}
section
variable {ty yt : TypeId} {x y : Operand} {k : IntKind} {m : Nat} [hk : Bits k m] {a b : BitVec m}
end
end Go.Proofs.Ytcgmapioelfneaa
namespace Go.Proofs.Ytcgmapioelfneaa
open Go.RowKit
set_option maxRecDepth 100000
variable {C : Ctx} {ops : Array Oper} {S : St} {o : Oper}
/-- What lay below is as it was, but for some blocks. -/
structure BelowX (w w' : World) (m : List Nat) : Prop where
  os : w'.os = w.os
  tape : w'.tape = w.tape
  output : w'.output = w.output
  size : w.heap.size ≤ w'.heap.size
  block : ∀ k, k < w.heap.size → k ∉ m → w'.heap[k]? = w.heap[k]?
theorem Ctx.frame.belowX {w : World} (h : C.frame w) : BelowX C.w0 w C.m := ⟨h.os, h.tape, h.output, h.size, h.block⟩
theorem BelowX.of {w w' : World} {m : List Nat} (h : Below w.heap.size w w') : BelowX w w' m := ⟨h.os, h.tape, h.output, h.size, fun k hk _ => h.block k hk⟩
/-- The name stands for this block. -/
def Res.is (n b : Nat) : Res where
  foot _ _ := False
  ok e _ := (e n).b = b
  sup := [n]
  wr := false
  ind e e' h := ⟨rfl, by rw [h n (by simp)]⟩
  loc _ _ _ _ h := h
  lt _ _ _ _ h := h.elim
/-- Handed back: a value; the object's cells are these now, and nothing else that lay there is changed. -/
def RetP (w : World) (b : Nat) (T : TypeId) (cells : Array Value) (v : Value) : Ending → World → Prop := fun r w' => r = .returned v ∧ Blk w' b cells T ∧ BelowX w w' [b]
/-! ### the walk of a method -/
theorem fin_obj {v : Value} {V : SV} {w0 : World} {n b : Nat} {T : TypeId} {A : SA} {cells : Array Value} (hr : S.res 1000 = some (.blk 1000 T A)) (hi : S.res 1001 = some (.is 1000 b)) (hA : ∀ e, A.den e = cells) (h : ∀ e, V.den e = v) :
    ∀ e a w, Holds ⟨n, w0, [b]⟩ S e a w → RetP w0 b T cells v (.returned (V.den e)) w := fun e a w hS => by
  obtain ⟨fr, hb, hfr⟩ := res_blk hS hr
  have he : (e 1000).b = b := hS.res 1001 _ hi
  rw [hfr rfl, he, hA] at hb
  exact ⟨by rw [h e], hb, hS.frame.belowX⟩
/-! ### calls of methods -/
theorem Holds.writeX {e : Env} {a : Act} {w w' : World} (hS : Holds C S e a w) {n : Nat} {T : TypeId} {A A' : SA} (hr : S.res n = some (.blk n T A)) (hx : BelowX w w' [(e n).b]) (hn : Blk w' (e n).b (A'.den e) T) : Holds C ⟨S.t, (n, some (.blk n T A')) :: S.h⟩ e a w' := by
  have hm : ∀ b, b = (e n).b → C.mine b := fun b hb => hS.mine n _ hr rfl b hb
  refine ⟨hS.defers, hS.size, hS.tmp, fun m r h => ?_, fun m r h hw b hb => ?_, fun m k r r' h h' hne hw b hb => ?_, ⟨hx.os.trans hS.frame.os, hx.tape.trans hS.frame.tape, hx.output.trans hS.frame.output, Nat.le_trans hS.frame.size hx.size, fun k hk hkm => ?_⟩⟩
  · rw [St.res_cons] at h
    split at h
    · cases h; exact ⟨(0, 0), hn, fun _ => rfl⟩
    · rename_i hne
      refine r.loc e w w' (fun b hb => hx.block b (r.lt e w b (hS.res m r h) hb) fun he => ?_) (hS.res m r h)
      have he : b = (e n).b := by simpa using he
      exact hS.sep n m _ r hr h hne rfl (e n).b rfl (he ▸ hb)
  · rw [St.res_cons] at h
    split at h
    · cases h; exact hm b hb
    · exact hS.mine m r h hw b hb
  · rw [St.res_cons] at h h'
    split at h
    · rename_i h1; cases h; subst h1
      split at h'
      · rename_i h2; exact absurd h2 hne
      · exact hS.sep n k _ r' hr h' hne rfl b hb
    · split at h'
      · rename_i h2; cases h'; subst h2
        exact hS.sep m n r _ h hr hne hw b hb
      · exact hS.sep m k r r' h h' hne hw b hb
  · rw [hx.block k (Nat.lt_of_lt_of_le hk hS.frame.size) ?_]
    · exact hS.frame.block k hk hkm
    · intro he
      have he : k = (e n).b := by simpa using he
      rcases hm k he with h | h
      · exact absurd hk (by omega)
      · exact hkm h
theorem Holds.newObj {e : Env} {a : Act} {w w' : World} (hS : Holds C S e a w) {n b : Nat} (hf : S.fresh n) (T : TypeId) (A : SA) {cells : Array Value} (hA : ∀ e, A.den e = cells) (hb : Below w.heap.size w w') (hsz : w.heap.size ≤ b) (hB : Blk w' b cells T) :
    Holds C ⟨S.t, (n, some (.blk n T A)) :: S.h⟩ (e.set n ⟨b, 0, undef⟩) a w' := by
  have h1 := (hS.world hb).rename hf ⟨b, 0, undef⟩
  have hfoot : ∀ m r, S.res m = some r → ¬ r.foot (e.set n ⟨b, 0, undef⟩) b := by
    intro m r hr hfo
    have h2 := r.ind e (e.set n ⟨b, 0, undef⟩) fun k hk => Env.set_ne e _ (fun he => hf.2 m r hr (he ▸ hk))
    rw [h2.1] at hfo
    have := r.lt e w _ (hS.res m r hr) hfo
    omega
  refine ⟨h1.defers, h1.size, h1.tmp, fun m r hr => ?_, fun m r hr hw x hx => ?_, fun m k r r' hr hr' hne hw x hx => ?_, h1.frame⟩
  · rw [St.res_cons] at hr
    split at hr
    · cases hr
      exact ⟨(0, 0), by rw [Env.set_self, hA]; exact hB, fun _ => rfl⟩
    · exact h1.res m r hr
  · rw [St.res_cons] at hr
    split at hr
    · cases hr
      have : x = b := by rw [show x = ((e.set n ⟨b, 0, undef⟩) n).b from hx, Env.set_self]
      exact .inl (by rw [this]; exact Nat.le_trans hS.frame.size hsz)
    · exact h1.mine m r hr hw x hx
  · rw [St.res_cons] at hr hr'
    split at hr
    · cases hr
      have hbb : x = b := by rw [show x = ((e.set n ⟨b, 0, undef⟩) n).b from hx, Env.set_self]
      split at hr'
      · rename_i h2 h3; exact absurd (h2.symm.trans h3) hne
      · rw [hbb]; exact hfoot k r' hr'
    · split at hr'
      · cases hr'
        intro hb2
        have hbb : x = b := by rw [show x = ((e.set n ⟨b, 0, undef⟩) n).b from hb2, Env.set_self]
        rw [hbb] at hx
        exact hfoot m r hr hx
      · exact h1.sep m k r r' hr hr' hne hw x hx
theorem call_hop {S' : St} {e : Env} {a : Act} {w : World} {f j : FuncId} {xs : Array Operand} {ats : Array TypeId} {vs : List SV} (ho : o.op = .call { callee := .value (.func f), args := xs, argTypes := ats }) (hxs : EvS S xs.toList vs) (hc' : tabLook calT f = some j)
    (h1 : ∀ i ∈ xs.toList.flatMap opT, S'.tmp i = S.tmp i) (hS : Holds C S' e a w) : (execOp a.eval o).run Try.prog w = .ok (.enter j (vs.map (·.den e)).toArray) w := by
  have hev : xs.toList.map S'.ev = vs.map some := by
    rw [← show xs.toList.map S.ev = vs.map some from hxs]
    exact List.map_congr_left fun x hx => ev_like h1 fun i hi => List.mem_flatMap.2 ⟨x, hx, hi⟩
  have hargs : xs.map a.eval = (vs.map (·.den e)).toArray := by
    rw [← evs_all hS _ _ hev, ← Array.toList_map, Array.toArray_toList]
  have hcall := tabAll_look calT_ok hc'
  obtain ⟨dst, op, ty, pos, after, guard⟩ := o
  change op = _ at ho
  subst ho
  rw [execOp_call_go]
  simp only [hargs, Array.empty_append, Array.append_empty]
  exact hcall _ w
section
variable {l : List Oper} {t : List (Nat × SV)} {h : List (Nat × Option Res)} {d : Nat} {f j : FuncId} {xs : Array Operand} {ats : Array TypeId} {vs : List SV}
end
theorem upd_cong {A B A' A'' : SA} {off m : Nat} (h : Upd A off m B A') (he : ∀ e, A'.den e = A''.den e) : Upd A off m B A'' := fun e => by
  obtain ⟨pre, old, post, h1, h2, h3, h4, h5⟩ := h e
  exact ⟨pre, old, post, h1, h2, h3, h4, by rw [← he e]; exact h5⟩
theorem upd_here2 {A R x y : SA} {off m : Nat} (h0 : off = 0) (h : Drop A m R) (hb : ∀ e, ((x.app y).den e).size = m) : Upd A off m (x.app y) (x.app (y.app R)) := upd_cong (upd_here' h0 h hb) fun e => by simp [SA.app, Array.append_assoc]
theorem upd_here3 {A R x y z : SA} {off m : Nat} (h0 : off = 0) (h : Drop A m R) (hb : ∀ e, ((x.app (y.app z)).den e).size = m) : Upd A off m (x.app (y.app z)) (x.app (y.app (z.app R))) := upd_cong (upd_here' h0 h hb) fun e => by simp [SA.app, Array.append_assoc]
theorem upd_here4 {A R x y z u : SA} {off m : Nat} (h0 : off = 0) (h : Drop A m R) (hb : ∀ e, ((x.app (y.app (z.app u))).den e).size = m) : Upd A off m (x.app (y.app (z.app u))) (x.app (y.app (z.app (u.app R)))) := upd_cong (upd_here' h0 h hb) fun e => by simp [SA.app, Array.append_assoc]
/-! ### pointers -/
section
variable {x y : Operand} {n off : Nat} {ty yt : TypeId}
end
/-- Two rows, compared. -/
theorem op_neR {x y : Operand} {ty yt : TypeId} {X Y : SV} {xs ys : Array Value} {b : Bool} (hrun : ∀ w, (Op.equalIn 10000 ty (.agg xs) (.agg ys)).run Try.prog w = .ok b w) (ho : o.op = .binOp .neq ty x y yt) (hg : o.guard = none) (hd : dstB o.dst C.nt = true) (hx : S.ev x = some X) (hy : S.ev y = some Y)
    (hX : ∀ e, X.den e = .agg xs) (hY : ∀ e, Y.den e = .agg ys) (hm : Try.prog.eqGuardType Try.prog.depth ty = false) : OpG C Try.prog ops o S ⟨opT x ++ opT y, [], dw o.dst (.c (.bool (!b))), [], []⟩ :=
  op_two (v := .c (.bool (!b))) hg hd hx hy fun e ρ w h1 h2 => by
    have h1' : ρ x = .agg xs := h1.trans (hX e)
    have h2' : ρ y = .agg ys := h2.trans (hY e)
    simp only [execOp, ho, h1', h2', Sem.run_bind, run_eqGuard_agg w _ _ _ _ _ _ hm, Result.andThen_ok, run_neq_struct, hrun, Sem.run_pure]
    rfl
theorem op_eqR {x y : Operand} {ty yt : TypeId} {X Y : SV} {xs ys : Array Value} {b : Bool} (hrun : ∀ w, (Op.equalIn 10000 ty (.agg xs) (.agg ys)).run Try.prog w = .ok b w) (ho : o.op = .binOp .eql ty x y yt) (hg : o.guard = none) (hd : dstB o.dst C.nt = true) (hx : S.ev x = some X) (hy : S.ev y = some Y)
    (hX : ∀ e, X.den e = .agg xs) (hY : ∀ e, Y.den e = .agg ys) (hm : Try.prog.eqGuardType Try.prog.depth ty = false) : OpG C Try.prog ops o S ⟨opT x ++ opT y, [], dw o.dst (.c (.bool b)), [], []⟩ :=
  op_two (v := .c (.bool b)) hg hd hx hy fun e ρ w h1 h2 => by
    have h1' : ρ x = .agg xs := h1.trans (hX e)
    have h2' : ρ y = .agg ys := h2.trans (hY e)
    simp only [execOp, ho, h1', h2', Sem.run_bind, run_eqGuard_agg w _ _ _ _ _ _ hm, Result.andThen_ok, run_eql_struct, hrun, Sem.run_pure]
    rfl
end Go.Proofs.Ytcgmapioelfneaa
namespace Go.Proofs.Ytcgmapioelfneaa
open Go.RowKit
set_option maxRecDepth 100000
/-! ### slices that stay, whatever is written into some blocks -/
theorem BelowX.refl (w : World) (m : List Nat) : BelowX w w m := ⟨rfl, rfl, rfl, Nat.le_refl _, fun _ _ _ => rfl⟩
theorem BelowX.trans' {w w' w'' : World} {m : List Nat} (h : BelowX w w' m) (h' : BelowX w' w'' m) : BelowX w w'' m := ⟨h'.os.trans h.os, h'.tape.trans h.tape, h'.output.trans h.output, Nat.le_trans h.size h'.size, fun k hk hm => (h'.block k (Nat.lt_of_lt_of_le hk h.size) hm).trans (h.block k hk hm)⟩
def RdX (w : World) (m : List Nat) (size : Nat) (v : Value) (n : Nat) (xs : List Value) : Prop := ∀ w', BelowX w w' m → RdV w' size v n xs
def FSX (w : World) (m : List Nat) (size : Nat) (v : Value) (n : Nat) (xs : List Value) : Prop := ∀ w', BelowX w w' m → FS w' size v n xs
theorem FSX.fs {w : World} {m : List Nat} {size : Nat} {v : Value} {n : Nat} {xs : List Value} (h : FSX w m size v n xs) : FS w size v n xs := h w (BelowX.refl w m)
theorem FSX.rdx {w : World} {m : List Nat} {size : Nat} {v : Value} {n : Nat} {xs : List Value} (h : FSX w m size v n xs) : RdX w m size v n xs := fun w' hw => (h w' hw).1
theorem RdX.rd {w : World} {m : List Nat} {size : Nat} {v : Value} {n : Nat} {xs : List Value} (h : RdX w m size v n xs) : RdV w size v n xs := h w (BelowX.refl w m)
theorem FSX.cutB {w : World} {m : List Nat} {v : Value} {n : Nat} {k : IntKind} {q : Nat} {l : List (BitVec q)} (h : FSX w m 1 v n (valsL k l)) {lo len : Nat} (hl : lo + len ≤ n) : FSX w m 1 (cutV v lo len) len (valsL k ((l.drop lo).take len)) := fun w' hw => (h w' hw).cutB hl
theorem FSX.later {w w1 : World} {m : List Nat} {size : Nat} {v : Value} {n : Nat} {xs : List Value} (h : FSX w m size v n xs) (hw : BelowX w w1 m) : FSX w1 m size v n xs := fun _ h1 => h _ (hw.trans' h1)
variable {C : Ctx} {ops : Array Oper} {S : St} {o : Oper}
theorem rdn_oldR {v : Value} {size n : Nat} {xs : List Value} (h : RdX C.w0 C.m size v n xs) : RdN C S [] size (.c v) n xs := fun _ _ _ w _ hS => h w hS.frame.belowX
/-! ### a copy into a block -/
end Go.Proofs.Ytcgmapioelfneaa
