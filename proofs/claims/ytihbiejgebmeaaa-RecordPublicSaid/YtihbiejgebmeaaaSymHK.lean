/- More operations of the symbolic walk: bits of numbers that may lie below 0. The symbolic walk of methods: an object that lies behind a pointer, that a call changes or makes. Objects and slices that lie beside them; copies; slices built of many values. No condition. Slices of slices handed over beside an object; slices built of many values; slices made. No condition. -/
import Derived.Test.YtihbiejgebmeaaaSymG
import Derived.Laws.CopyRow
import Derived.Laws.OwnMore
namespace Go.Proofs.Ytihbiejgebmeaaa
open Go.RowKit
set_option maxRecDepth 100000
variable {C : Ctx} {ops : Array Oper} {S : St} {o : Oper}
section
variable {ty yt : TypeId} {x y : Operand} {k : IntKind} {m : Nat} [hk : Bits k m] {a b : BitVec m}
theorem op_subB2 (ho : o.op = .binOp .sub ty x y yt) (hg : o.guard = none) (hd : dstB o.dst C.nt = true) (hy : EvB S y k b) (hx : EvB S x k a) : OpG C Try.prog ops o S ⟨opT x ++ opT y, [], dw o.dst (.c (.int k (bvi (a - b)))), [], []⟩ := op_subB ho hg hd hx hy
end
end Go.Proofs.Ytihbiejgebmeaaa
namespace Go.Proofs.Ytihbiejgebmeaaa
open Go.RowKit
set_option maxRecDepth 100000
variable {C : Ctx} {ops : Array Oper} {S : St} {o : Oper}
/-- What lay below is as it was, but for some blocks. -/
structure BelowX (w w' : World) (m : List Nat) : Prop where
  os : w'.os = w.os
  tape : w'.tape = w.tape
  output : w'.output = w.output
  size : w.heap.size ≤ w'.heap.size
  block : ∀ k, k < w.heap.size → k ∉ m → w'.heap[k]? = w.heap[k]?
theorem Ctx.frame.belowX {w : World} (h : C.frame w) : BelowX C.w0 w C.m := ⟨h.os, h.tape, h.output, h.size, h.block⟩
theorem BelowX.of {w w' : World} {m : List Nat} (h : Below w.heap.size w w') : BelowX w w' m := ⟨h.os, h.tape, h.output, h.size, fun k hk _ => h.block k hk⟩
/-- The name stands for this block. -/
def Res.is (n b : Nat) : Res where
  foot _ _ := False
  ok e _ := (e n).b = b
  sup := [n]
  wr := false
  ind e e' h := ⟨rfl, by rw [h n (by simp)]⟩
  loc _ _ _ _ h := h
  lt _ _ _ _ h := h.elim
/-- Handed back: a value; the object's cells are these now, and nothing else that lay there is changed. -/
def RetP (w : World) (b : Nat) (T : TypeId) (cells : Array Value) (v : Value) : Ending → World → Prop := fun r w' => r = .returned v ∧ Blk w' b cells T ∧ BelowX w w' [b]
/-- Handed back: a pointer to a new object. -/
def RetN (w : World) (T : TypeId) (cells : Array Value) : Ending → World → Prop := fun r w' => ∃ b, r = .returned (.pointer (some ⟨b, 0, none⟩)) ∧ w.heap.size ≤ b ∧ Blk w' b cells T ∧ Below w.heap.size w w'
/-! ### the walk of a method -/
theorem holds_startP {n b : Nat} {args : Array Value} {w : World} {T : TypeId} {A : SA} {cells : Array Value} (h : args.size ≤ n) (h0 : args[0]? = some (.pointer (some ⟨b, 0, none⟩))) (hA : ∀ e, A.den e = cells) (hB : Blk w b cells T) :
    Holds ⟨n, w, [b]⟩ ⟨(0, .p 1000 0) :: idx 0 args.toList, [(1000, some (.blk 1000 T A)), (1001, some (.is 1000 b))]⟩ (fun _ => ⟨b, 0, undef⟩) { tmps := args ++ Array.replicate (n - args.size) undef, defers := [] } w where
  defers := rfl
  size := by simp; omega
  tmp i v hv := by
    have hv' : look ((0, SV.p 1000 0) :: idx 0 args.toList) i = some v := hv
    rw [look_cons] at hv'
    split at hv'
    · rename_i h2; subst h2; cases hv'
      have hi : 0 < args.size := (Array.getElem?_eq_some_iff.1 h0).1
      rw [Array.getElem?_append_left hi]
      exact h0
    · obtain ⟨u, h1, _, rfl⟩ := idx_look args.toList 0 i v hv'
      rw [Nat.sub_zero] at h1
      have hi : i < args.size := by have := (List.getElem?_eq_some_iff.1 h1).1; simpa using this
      rw [Array.getElem?_append_left hi]
      simpa [SV.c] using h1
  res k r hr := by
    rw [St.res_cons] at hr
    split at hr
    · cases hr; exact ⟨(0, 0), by rw [hA]; exact hB, fun _ => rfl⟩
    · rw [St.res_cons] at hr
      split at hr
      · cases hr; rfl
      · cases hr
  mine k r hr hw x hx := by
    rw [St.res_cons] at hr
    split at hr
    · cases hr; exact .inr (by rw [show x = b from hx]; simp)
    · rw [St.res_cons] at hr
      split at hr
      · cases hr; cases hw
      · cases hr
  sep k m r r' hr hr' hne hw x hx hx' := by
    rw [St.res_cons] at hr hr'
    split at hr
    · split at hr'
      · rename_i h1 h2; exact hne (h1.symm.trans h2)
      · rw [St.res_cons] at hr'
        split at hr'
        · cases hr'; exact hx'
        · cases hr'
    · rw [St.res_cons] at hr
      split at hr
      · cases hr; cases hw
      · cases hr
  frame := ⟨rfl, rfl, rfl, Nat.le_refl _, fun _ _ _ => rfl⟩
theorem calls_triP {P : Program} {f : FuncId} {fn : Func} {c : Code} {args : Array Value} {w : World} {R : Ending → World → Prop} {n b : Nat} (T : TypeId) (A : SA) {cells : Array Value} (hf : P.funcs[f]? = some fn) (hb : fn.body = some c) (hn : fn.ntmps = n) (hargs : Nat.ble args.size n = true)
    (h0 : args[0]? = some (.pointer (some ⟨b, 0, none⟩))) (hB : Blk w b cells T) (hA : ∀ e, A.den e = cells)
    (h : Tri ⟨n, w, [b]⟩ P ⟨(0, .p 1000 0) :: idx 0 args.toList, [(1000, some (.blk 1000 T A)), (1001, some (.is 1000 b))]⟩ c (bodyPost P fn R)) : Calls P f args w R := by
  subst hn
  exact calls_of_wp hf hb (h _ _ _ (holds_startP (Nat.le_of_ble_eq_true hargs) h0 hA hB))
theorem fin_obj {v : Value} {V : SV} {w0 : World} {n b : Nat} {T : TypeId} {A : SA} {cells : Array Value} (hr : S.res 1000 = some (.blk 1000 T A)) (hi : S.res 1001 = some (.is 1000 b)) (hA : ∀ e, A.den e = cells) (h : ∀ e, V.den e = v) :
    ∀ e a w, Holds ⟨n, w0, [b]⟩ S e a w → RetP w0 b T cells v (.returned (V.den e)) w := fun e a w hS => by
  obtain ⟨fr, hb, hfr⟩ := res_blk hS hr
  have he : (e 1000).b = b := hS.res 1001 _ hi
  rw [hfr rfl, he, hA] at hb
  exact ⟨by rw [h e], hb, hS.frame.belowX⟩
theorem fin_newblk {w0 : World} {nt n : Nat} {T : TypeId} {A : SA} {cells : Array Value} (hr : S.res n = some (.blk n T A)) (hA : ∀ e, A.den e = cells) :
    ∀ e a w, Holds ⟨nt, w0, []⟩ S e a w → RetN w0 T cells (.returned ((SV.p n 0).den e)) w := fun e a w hS => by
  obtain ⟨fr, hb, hfr⟩ := res_blk hS hr
  rw [hfr rfl, hA] at hb
  refine ⟨(e n).b, rfl, ?_, hb, hS.frame.below rfl⟩
  rcases hS.mine n _ hr rfl _ rfl with h | h
  · exact h
  · cases h
/-! ### calls of methods -/
theorem Holds.writeX {e : Env} {a : Act} {w w' : World} (hS : Holds C S e a w) {n : Nat} {T : TypeId} {A A' : SA} (hr : S.res n = some (.blk n T A)) (hx : BelowX w w' [(e n).b]) (hn : Blk w' (e n).b (A'.den e) T) : Holds C ⟨S.t, (n, some (.blk n T A')) :: S.h⟩ e a w' := by
  have hm : ∀ b, b = (e n).b → C.mine b := fun b hb => hS.mine n _ hr rfl b hb
  refine ⟨hS.defers, hS.size, hS.tmp, fun m r h => ?_, fun m r h hw b hb => ?_, fun m k r r' h h' hne hw b hb => ?_, ⟨hx.os.trans hS.frame.os, hx.tape.trans hS.frame.tape, hx.output.trans hS.frame.output, Nat.le_trans hS.frame.size hx.size, fun k hk hkm => ?_⟩⟩
  · rw [St.res_cons] at h
    split at h
    · cases h; exact ⟨(0, 0), hn, fun _ => rfl⟩
    · rename_i hne
      refine r.loc e w w' (fun b hb => hx.block b (r.lt e w b (hS.res m r h) hb) fun he => ?_) (hS.res m r h)
      have he : b = (e n).b := by simpa using he
      exact hS.sep n m _ r hr h hne rfl (e n).b rfl (he ▸ hb)
  · rw [St.res_cons] at h
    split at h
    · cases h; exact hm b hb
    · exact hS.mine m r h hw b hb
  · rw [St.res_cons] at h h'
    split at h
    · rename_i h1; cases h; subst h1
      split at h'
      · rename_i h2; exact absurd h2 hne
      · exact hS.sep n k _ r' hr h' hne rfl b hb
    · split at h'
      · rename_i h2; cases h'; subst h2
        exact hS.sep m n r _ h hr hne hw b hb
      · exact hS.sep m k r r' h h' hne hw b hb
  · rw [hx.block k (Nat.lt_of_lt_of_le hk hS.frame.size) ?_]
    · exact hS.frame.block k hk hkm
    · intro he
      have he : k = (e n).b := by simpa using he
      rcases hm k he with h | h
      · exact absurd hk (by omega)
      · exact hkm h
theorem Holds.newObj {e : Env} {a : Act} {w w' : World} (hS : Holds C S e a w) {n b : Nat} (hf : S.fresh n) (T : TypeId) (A : SA) {cells : Array Value} (hA : ∀ e, A.den e = cells) (hb : Below w.heap.size w w') (hsz : w.heap.size ≤ b) (hB : Blk w' b cells T) :
    Holds C ⟨S.t, (n, some (.blk n T A)) :: S.h⟩ (e.set n ⟨b, 0, undef⟩) a w' := by
  have h1 := (hS.world hb).rename hf ⟨b, 0, undef⟩
  have hfoot : ∀ m r, S.res m = some r → ¬ r.foot (e.set n ⟨b, 0, undef⟩) b := by
    intro m r hr hfo
    have h2 := r.ind e (e.set n ⟨b, 0, undef⟩) fun k hk => Env.set_ne e _ (fun he => hf.2 m r hr (he ▸ hk))
    rw [h2.1] at hfo
    have := r.lt e w _ (hS.res m r hr) hfo
    omega
  refine ⟨h1.defers, h1.size, h1.tmp, fun m r hr => ?_, fun m r hr hw x hx => ?_, fun m k r r' hr hr' hne hw x hx => ?_, h1.frame⟩
  · rw [St.res_cons] at hr
    split at hr
    · cases hr
      exact ⟨(0, 0), by rw [Env.set_self, hA]; exact hB, fun _ => rfl⟩
    · exact h1.res m r hr
  · rw [St.res_cons] at hr
    split at hr
    · cases hr
      have : x = b := by rw [show x = ((e.set n ⟨b, 0, undef⟩) n).b from hx, Env.set_self]
      exact .inl (by rw [this]; exact Nat.le_trans hS.frame.size hsz)
    · exact h1.mine m r hr hw x hx
  · rw [St.res_cons] at hr hr'
    split at hr
    · cases hr
      have hbb : x = b := by rw [show x = ((e.set n ⟨b, 0, undef⟩) n).b from hx, Env.set_self]
      split at hr'
      · rename_i h2 h3; exact absurd (h2.symm.trans h3) hne
      · rw [hbb]; exact hfoot k r' hr'
    · split at hr'
      · cases hr'
        intro hb2
        have hbb : x = b := by rw [show x = ((e.set n ⟨b, 0, undef⟩) n).b from hb2, Env.set_self]
        rw [hbb] at hx
        exact hfoot m r hr hx
      · exact h1.sep m k r r' hr hr' hne hw x hx
def CallP (C : Ctx) (S : St) (rb : List Nat) (n T j : Nat) (vs : List SV) (cells : Array Value) (v : Value) : Prop := ∀ (S' : St) e a w, Holds C S' e a w → (∀ q ∈ rb, S'.res q = S.res q) → Calls Try.prog j (vs.map (·.den e)).toArray w (RetP w (e n).b T cells v)
def CallN (C : Ctx) (S : St) (rb : List Nat) (T j : Nat) (vs : List SV) (cells : Array Value) : Prop := ∀ (S' : St) e a w, Holds C S' e a w → (∀ q ∈ rb, S'.res q = S.res q) → Calls Try.prog j (vs.map (·.den e)).toArray w (RetN w T cells)
theorem callP_0 {n T j : Nat} {vs : List SV} {A : SA} {cells0 cells : Array Value} {v : Value} (hr : S.res n = some (.blk n T A)) (hA : ∀ e, A.den e = cells0) (h : ∀ (e : Env) w, Blk w (e n).b cells0 T → Calls Try.prog j (vs.map (·.den e)).toArray w (RetP w (e n).b T cells v)) : CallP C S [n] n T j vs cells v := fun S' e a w hS hq => by
  obtain ⟨fr, hb, hfr⟩ := res_blk hS ((hq n (by simp)).trans hr)
  rw [hfr rfl, hA] at hb
  exact h e w hb
theorem callN_0 {T j : Nat} {vs : List SV} {cells : Array Value} (h : ∀ (e : Env) w, Calls Try.prog j (vs.map (·.den e)).toArray w (RetN w T cells)) : CallN C S [] T j vs cells := fun _ e _ w _ _ => h e w
theorem call_hop {S' : St} {e : Env} {a : Act} {w : World} {f j : FuncId} {xs : Array Operand} {ats : Array TypeId} {vs : List SV} (ho : o.op = .call { callee := .value (.func f), args := xs, argTypes := ats }) (hxs : EvS S xs.toList vs) (hc' : tabLook calT f = some j)
    (h1 : ∀ i ∈ xs.toList.flatMap opT, S'.tmp i = S.tmp i) (hS : Holds C S' e a w) : (execOp a.eval o).run Try.prog w = .ok (.enter j (vs.map (·.den e)).toArray) w := by
  have hev : xs.toList.map S'.ev = vs.map some := by
    rw [← show xs.toList.map S.ev = vs.map some from hxs]
    exact List.map_congr_left fun x hx => ev_like h1 fun i hi => List.mem_flatMap.2 ⟨x, hx, hi⟩
  have hargs : xs.map a.eval = (vs.map (·.den e)).toArray := by
    rw [← evs_all hS _ _ hev, ← Array.toList_map, Array.toArray_toList]
  have hcall := tabAll_look calT_ok hc'
  obtain ⟨dst, op, ty, pos, after, guard⟩ := o
  change op = _ at ho
  subst ho
  rw [execOp_call_go]
  simp only [hargs, Array.empty_append, Array.append_empty]
  exact hcall _ w
theorem op_callP {f : FuncId} {xs : Array Operand} {ats : Array TypeId} {vs : List SV} {rb : List Nat} {j n T : Nat} {A A' : SA} {cells : Array Value} {v : Value} (ho : o.op = .call { callee := .value (.func f), args := xs, argTypes := ats }) (hg : o.guard = none) (hd : dstB o.dst C.nt = true) (hxs : EvS S xs.toList vs) (hc' : tabLook calT f = some j)
    (hr : S.res n = some (.blk n T A)) (hA' : ∀ e, A'.den e = cells) (hcon : CallP C S rb n T j vs cells v) :
    OpG C Try.prog ops o S ⟨xs.toList.flatMap opT, n :: rb, dw o.dst (.c v), [(n, some (.blk n T A'))], []⟩ := by
  refine opG_mk hg fun S' h1 h2 h3 e a w hS => ?_
  unfold Oper.wp
  rw [call_hop ho hxs hc' h1 hS]
  refine Calls.mono (hcon S' e a w hS fun q hq => h2 q (List.mem_cons_of_mem _ hq)) ?_
  rintro r w' ⟨rfl, hb, hx⟩
  rw [← hA' e] at hb
  exact ⟨e, (hS.writeX ((h2 n (by simp)).trans hr) hx hb).put hd (.c v)⟩
theorem op_callN {f : FuncId} {xs : Array Operand} {ats : Array TypeId} {vs : List SV} {rb : List Nat} {j n T : Nat} {A' : SA} {cells : Array Value} (ho : o.op = .call { callee := .value (.func f), args := xs, argTypes := ats }) (hdn : o.dst = some n) (hg : o.guard = none) (hd : dstB o.dst C.nt = true) (hxs : EvS S xs.toList vs) (hc' : tabLook calT f = some j)
    (hA' : ∀ e, A'.den e = cells) (hcon : CallN C S rb T j vs cells) :
    OpG C Try.prog ops o S ⟨xs.toList.flatMap opT, rb, [(n, .p n 0)], [(n, some (.blk n T A'))], [n]⟩ := by
  refine opG_mk hg fun S' h1 h2 h3 e a w hS => ?_
  unfold Oper.wp
  rw [call_hop ho hxs hc' h1 hS]
  refine Calls.mono (hcon S' e a w hS h2) ?_
  rintro r w' ⟨b, rfl, hsz, hB, hb⟩
  have := (hS.newObj (n := n) (h3 n (by simp)) T A' hA' hb hsz hB).put hd (.p n 0)
  simp only [SV.p, Env.set_self] at this
  rw [hdn] at this ⊢
  exact ⟨_, this⟩
section
variable {l : List Oper} {t : List (Nat × SV)} {h : List (Nat × Option Res)} {d : Nat} {f j : FuncId} {xs : Array Operand} {ats : Array TypeId} {vs : List SV}
theorem walk1_callP {K : St → Prop} (A' : SA) {n T : Nat} {A : SA} {vs' : List SV} (ho : o.op = .call { callee := .value (.func f), args := xs, argTypes := ats }) (hdn : o.dst = some d) (hg : o.guard = none) (hd : dstB o.dst C.nt = true) (hxs : EvS ⟨t, h⟩ xs.toList vs) (hp : vs = .p n 0 :: vs') (h1 : (St.mk t h).res n = some (.blk n T A)) (hc' : tabLook calT f = some j)
    (hK : ∃ rb cells v, CallP C ⟨t, h⟩ rb n T j vs cells v ∧ (∀ e, A'.den e = cells) ∧ Walk1 C Try.prog ops l ⟨(d, .c v) :: t, (n, some (.blk n T A')) :: h⟩ K) : Walk1 C Try.prog ops (o :: l) ⟨t, h⟩ K := by
  obtain ⟨rb, cells, v, h2, h3, h4⟩ := hK
  have := op_callP (C := C) (ops := ops) ho hg hd hxs hc' h1 h3 h2
  rw [hdn] at this
  exact ⟨_, this, rfl, h4⟩
theorem walk1_callP0 {K : St → Prop} (A' : SA) {n T : Nat} {A : SA} {vs' : List SV} (ho : o.op = .call { callee := .value (.func f), args := xs, argTypes := ats }) (hdn : o.dst = none) (hg : o.guard = none) (hxs : EvS ⟨t, h⟩ xs.toList vs) (hp : vs = .p n 0 :: vs') (h1 : (St.mk t h).res n = some (.blk n T A)) (hc' : tabLook calT f = some j)
    (hK : ∃ rb cells v, CallP C ⟨t, h⟩ rb n T j vs cells v ∧ (∀ e, A'.den e = cells) ∧ Walk1 C Try.prog ops l ⟨t, (n, some (.blk n T A')) :: h⟩ K) : Walk1 C Try.prog ops (o :: l) ⟨t, h⟩ K := by
  obtain ⟨rb, cells, v, h2, h3, h4⟩ := hK
  have := op_callP (C := C) (ops := ops) ho hg (by rw [hdn]; rfl) hxs hc' h1 h3 h2
  rw [hdn] at this
  exact ⟨_, this, rfl, h4⟩
theorem walk1_callN {K : St → Prop} (A' : SA) (ho : o.op = .call { callee := .value (.func f), args := xs, argTypes := ats }) (hdn : o.dst = some d) (hg : o.guard = none) (hd : dstB o.dst C.nt = true) (hf : freshB ⟨t, h⟩ d = true) (hxs : EvS ⟨t, h⟩ xs.toList vs) (hc' : tabLook calT f = some j)
    (hK : ∃ rb T cells, CallN C ⟨t, h⟩ rb T j vs cells ∧ (∀ e, A'.den e = cells) ∧ Walk1 C Try.prog ops l ⟨(d, .p d 0) :: t, (d, some (.blk d T A')) :: h⟩ K) : Walk1 C Try.prog ops (o :: l) ⟨t, h⟩ K := by
  obtain ⟨rb, T, cells, h1, h2, h3⟩ := hK
  exact walk1_n (op_callN (C := C) (ops := ops) ho hdn hg hd hxs hc' h2 h1) hf h3
end
theorem ld_any {Z : Array Value} {off : Nat} {u : Value} (h : Z[off]? = some u) : ∀ e, ((SA.c Z).den e)[off]? = some ((SV.c u).den e) := fun _ => h
theorem upd_cong {A B A' A'' : SA} {off m : Nat} (h : Upd A off m B A') (he : ∀ e, A'.den e = A''.den e) : Upd A off m B A'' := fun e => by
  obtain ⟨pre, old, post, h1, h2, h3, h4, h5⟩ := h e
  exact ⟨pre, old, post, h1, h2, h3, h4, by rw [← he e]; exact h5⟩
theorem upd_here2 {A R x y : SA} {off m : Nat} (h0 : off = 0) (h : Drop A m R) (hb : ∀ e, ((x.app y).den e).size = m) : Upd A off m (x.app y) (x.app (y.app R)) := upd_cong (upd_here' h0 h hb) fun e => by simp [SA.app, Array.append_assoc]
theorem upd_here3 {A R x y z : SA} {off m : Nat} (h0 : off = 0) (h : Drop A m R) (hb : ∀ e, ((x.app (y.app z)).den e).size = m) : Upd A off m (x.app (y.app z)) (x.app (y.app (z.app R))) := upd_cong (upd_here' h0 h hb) fun e => by simp [SA.app, Array.append_assoc]
theorem upd_here4 {A R x y z u : SA} {off m : Nat} (h0 : off = 0) (h : Drop A m R) (hb : ∀ e, ((x.app (y.app (z.app u))).den e).size = m) : Upd A off m (x.app (y.app (z.app u))) (x.app (y.app (z.app (u.app R)))) := upd_cong (upd_here' h0 h hb) fun e => by simp [SA.app, Array.append_assoc]
/-! ### pointers -/
section
variable {x y : Operand} {n off : Nat} {ty yt : TypeId}
theorem op_nilP (ho : o.op = .nilCheck x) (hg : o.guard = none) (hd : dstB o.dst C.nt = true) (hx : S.ev x = some (.p n off)) : OpG C Try.prog ops o S ⟨opT x, [n], dw o.dst (.p n off), [], []⟩ :=
  op_one (v := .p n off) hg hd hx fun e ρ w h1 => by
    have h1' : ρ x = .pointer (some ⟨(e n).b, off, none⟩) := h1
    simp [execOp, ho, h1', SV.p]
theorem op_eqNil {e0 : TypeId} (hu' : tabLook undT ty = some (.pointer e0)) (ho : o.op = .binOp .eql ty x y yt) (hg : o.guard = none) (hd : dstB o.dst C.nt = true) (hx : S.ev x = some (.p n off)) (hy : S.ev y = some (.c (.pointer none))) : OpG C Try.prog ops o S ⟨opT x ++ opT y, [], dw o.dst (.c (.bool false)), [], []⟩ :=
  op_two (v := .c (.bool false)) hg hd hx hy fun e ρ w h1 h2 => by
    have h1' : ρ x = .pointer (some ⟨(e n).b, off, none⟩) := h1
    have h2' : ρ y = .pointer none := h2
    have hu := tabAll_look undT_ok hu'
    have hq : Try.prog.underlying ty = some (.pointer (Try.prog.pointee ty)) := by rw [hu]; simp [Program.pointee, hu]
    simp [execOp, ho, h1', h2', binOp, eqGuard, SV.c, run_equal_pointer_nil w ty _ hq]
end
/-- Two rows, compared. -/
theorem op_neR {x y : Operand} {ty yt : TypeId} {X Y : SV} {xs ys : Array Value} {b : Bool} (hrun : ∀ w, (Op.equalIn 10000 ty (.agg xs) (.agg ys)).run Try.prog w = .ok b w) (ho : o.op = .binOp .neq ty x y yt) (hg : o.guard = none) (hd : dstB o.dst C.nt = true) (hx : S.ev x = some X) (hy : S.ev y = some Y)
    (hX : ∀ e, X.den e = .agg xs) (hY : ∀ e, Y.den e = .agg ys) (hm : Try.prog.eqGuardType Try.prog.depth ty = false) : OpG C Try.prog ops o S ⟨opT x ++ opT y, [], dw o.dst (.c (.bool (!b))), [], []⟩ :=
  op_two (v := .c (.bool (!b))) hg hd hx hy fun e ρ w h1 h2 => by
    have h1' : ρ x = .agg xs := h1.trans (hX e)
    have h2' : ρ y = .agg ys := h2.trans (hY e)
    simp only [execOp, ho, h1', h2', Sem.run_bind, run_eqGuard_agg w _ _ _ _ _ _ hm, Result.andThen_ok, run_neq_struct, hrun, Sem.run_pure]
    rfl
theorem op_eqR {x y : Operand} {ty yt : TypeId} {X Y : SV} {xs ys : Array Value} {b : Bool} (hrun : ∀ w, (Op.equalIn 10000 ty (.agg xs) (.agg ys)).run Try.prog w = .ok b w) (ho : o.op = .binOp .eql ty x y yt) (hg : o.guard = none) (hd : dstB o.dst C.nt = true) (hx : S.ev x = some X) (hy : S.ev y = some Y)
    (hX : ∀ e, X.den e = .agg xs) (hY : ∀ e, Y.den e = .agg ys) (hm : Try.prog.eqGuardType Try.prog.depth ty = false) : OpG C Try.prog ops o S ⟨opT x ++ opT y, [], dw o.dst (.c (.bool b)), [], []⟩ :=
  op_two (v := .c (.bool b)) hg hd hx hy fun e ρ w h1 h2 => by
    have h1' : ρ x = .agg xs := h1.trans (hX e)
    have h2' : ρ y = .agg ys := h2.trans (hY e)
    simp only [execOp, ho, h1', h2', Sem.run_bind, run_eqGuard_agg w _ _ _ _ _ _ hm, Result.andThen_ok, run_eql_struct, hrun, Sem.run_pure]
    rfl
end Go.Proofs.Ytihbiejgebmeaaa
namespace Go.Proofs.Ytihbiejgebmeaaa
open Go.RowKit
set_option maxRecDepth 100000
/-! ### slices that stay, whatever is written into some blocks -/
theorem BelowX.refl (w : World) (m : List Nat) : BelowX w w m := ⟨rfl, rfl, rfl, Nat.le_refl _, fun _ _ _ => rfl⟩
theorem BelowX.trans' {w w' w'' : World} {m : List Nat} (h : BelowX w w' m) (h' : BelowX w' w'' m) : BelowX w w'' m := ⟨h'.os.trans h.os, h'.tape.trans h.tape, h'.output.trans h.output, Nat.le_trans h.size h'.size, fun k hk hm => (h'.block k (Nat.lt_of_lt_of_le hk h.size) hm).trans (h.block k hk hm)⟩
def RdX (w : World) (m : List Nat) (size : Nat) (v : Value) (n : Nat) (xs : List Value) : Prop := ∀ w', BelowX w w' m → RdV w' size v n xs
def FSX (w : World) (m : List Nat) (size : Nat) (v : Value) (n : Nat) (xs : List Value) : Prop := ∀ w', BelowX w w' m → FS w' size v n xs
theorem FSX.fs {w : World} {m : List Nat} {size : Nat} {v : Value} {n : Nat} {xs : List Value} (h : FSX w m size v n xs) : FS w size v n xs := h w (BelowX.refl w m)
theorem FSX.rdx {w : World} {m : List Nat} {size : Nat} {v : Value} {n : Nat} {xs : List Value} (h : FSX w m size v n xs) : RdX w m size v n xs := fun w' hw => (h w' hw).1
theorem RdX.rd {w : World} {m : List Nat} {size : Nat} {v : Value} {n : Nat} {xs : List Value} (h : RdX w m size v n xs) : RdV w size v n xs := h w (BelowX.refl w m)
theorem FSX.cutB {w : World} {m : List Nat} {v : Value} {n : Nat} {k : IntKind} {q : Nat} {l : List (BitVec q)} (h : FSX w m 1 v n (valsL k l)) {lo len : Nat} (hl : lo + len ≤ n) : FSX w m 1 (cutV v lo len) len (valsL k ((l.drop lo).take len)) := fun w' hw => (h w' hw).cutB hl
theorem fsx_of {w : World} {size : Nat} {v : Value} {n : Nat} {xs : List Value} (h : FS w size v n xs) (hs : 0 < size) : FSX w [] size v n xs := fun _ hw => h.later hs fun b hb => hw.block b hb (by simp)
theorem FSX.later {w w1 : World} {m : List Nat} {size : Nat} {v : Value} {n : Nat} {xs : List Value} (h : FSX w m size v n xs) (hw : BelowX w w1 m) : FSX w1 m size v n xs := fun _ h1 => h _ (hw.trans' h1)
/-- Slices of bytes in a slice. -/
def SlcX (w : World) (m : List Nat) (v : Value) (ds : List (List (BitVec 8))) : Prop := ∃ ps, RdX w m 1 v ds.length ps ∧ ∀ (i : Nat) d, ds[i]? = some d → ∃ p, ps[i]? = some p ∧ FSX w m 1 p d.length (valsL .u8 d)
theorem slcx_of {w : World} {v : Value} {ds : List (List (BitVec 8))} (h : SlcL w v ds) : SlcX w [] v ds := by
  obtain ⟨ps, h1, h2⟩ := h
  refine ⟨ps, fun w' hw => h1.later (by omega) fun b hb => hw.block b hb (by simp), fun i d hd => ?_⟩
  obtain ⟨p, h3, h4⟩ := h2 i d hd
  exact ⟨p, h3, fsx_of h4 (by omega)⟩
variable {C : Ctx} {ops : Array Oper} {S : St} {o : Oper}
theorem rdn_oldX {v : Value} {size n : Nat} {xs : List Value} (h : FSX C.w0 C.m size v n xs) : RdN C S [] size (.c v) n xs := fun _ _ _ w _ hS => (h w hS.frame.belowX).1
theorem rdn_oldR {v : Value} {size n : Nat} {xs : List Value} (h : RdX C.w0 C.m size v n xs) : RdN C S [] size (.c v) n xs := fun _ _ _ w _ hS => h w hS.frame.belowX
theorem op_loadX {t : TypeId} {x : Operand} {v : Value} {n size : Nat} {xs : List Value} {off : Nat} {u : Value} {d : TypeDesc} (ho : o.op = .load t x) (hg : o.guard = none) (hd : dstB o.dst C.nt = true) (hx : S.ev x = some (.c (ptrV v off))) (hu' : tabLook undT t = some d) (hda : d.isRow = false) (hf : RdX C.w0 C.m size v n xs) (hn : 0 < size) (hv : xs[off]? = some u) :
    OpG C Try.prog ops o S ⟨opT x, [], dw o.dst (.c u), [], []⟩ := by
  obtain ⟨hl, a, c, rfl, hr⟩ := hf.rd
  have hlt : off < xs.length := (List.getElem?_eq_some_iff.1 hv).1
  rcases hr with h | ⟨b, o2, rfl, hr⟩
  · subst h; omega
  · have := op_value (C := C) (P := Try.prog) (ops := ops) (S := S) hg hd [x] [] (.c u) fun S' e a w hS h1 _ => by
      have hev : a.eval x = .pointer (some ⟨b, o2 + off, none⟩) := hS.ev ((h1 x (by simp)).trans hx)
      obtain ⟨_, a', c', hv', hr'⟩ := hf w hS.frame.belowX
      cases hv'
      have hc : w.cell? ⟨b, o2 + off, none⟩ = some u := by
        rcases hr' with h | ⟨b', o', h, hr'⟩
        · subst h; omega
        · cases h; exact hr' off u hv
      have hu := tabAll_look undT_ok hu'
      have hagg : (isAgg t).run Try.prog w = .ok false w := (run_isAgg hu w).trans (by rw [hda])
      simp [execOp, ho, hev, Instr.loadAt, Instr.sureAddr, loadVar, Sem.run_bind, hagg, hc]
      rfl
    simpa using this
/-! ### a copy into a block -/
theorem upd_vals {k : IntKind} {q : Nat} {X L : List (BitVec q)} {off m : Nat} (h : off + m ≤ X.length) (hl : L.length = m) : Upd (.c (vals k X)) off m (.c (vals k L)) (.c (vals k (X.take off ++ (L ++ X.drop (off + m))))) := fun e => by
  refine ⟨vals k (X.take off), vals k ((X.drop off).take m), vals k (X.drop (off + m)), ?_, ?_, ?_, ?_, ?_⟩
  · show vals k X = _
    have : X = X.take off ++ ((X.drop off).take m ++ X.drop (off + m)) := by rw [← List.drop_drop, List.take_append_drop, List.take_append_drop]
    conv => lhs; rw [this]
    simp [vals, valsL]
  · simp [vals, valsL]; omega
  · simp [vals, valsL]; omega
  · simp [SA.c, vals, valsL, hl]
  · simp [SA.c, vals, valsL]
theorem upd_inL {A R A' B : SA} {off m k : Nat} (hk : ∀ e, (A.den e).size = k) (hle : off + m ≤ k) (h : Upd A off m B A') : Upd (A.app R) off m B (A'.app R) := fun e => by
  obtain ⟨pre, old, post, h1, h2, h3, h4, h5⟩ := h e
  exact ⟨pre, old, post ++ R.den e, by simp [SA.app, h1], h2, h3, h4, by simp [SA.app, h5]⟩
theorem upd_skipO {A R R' B : SA} {off m k : Nat} (hk : ∀ e, (A.den e).size = k) (hle : k ≤ off) (h : Upd R (off - k) m B R') : Upd (A.app R) off m B (A.app R') := upd_skip hk (by simpa using hle) h
theorem op_copyB {dst : Option Tmp} {x y : Operand} {t sT T ty : TypeId} {pos : String} {after : Array Edge} {n off dl dc sl : Nat} {T0 : TypeId} {A A' : SA} {k : IntKind} {q : Nat} {l : List (BitVec q)} {v2 : SV} {ns : List Nat}
    (hd : dstB dst C.nt = true) (hx : S.ev x = some (.s n off dl dc)) (hr : S.res n = some (.blk n T0 A)) (hy : S.ev y = some v2) (hu' : tabLook undT t = some (.slice T)) (hs' : tabLook sizT T = some 1) (hrd : RdN C S ns 1 v2 sl (valsL k l) := by first | exact rdn_one rfl | exact rdn_ones rfl rfl | exact rdn_own rfl | exact rdn_osub rfl | exact rdn_whole rfl (by first | omega | (simp; omega) | (simp <;> fail) | omega) | exact rdn_sub rfl (by first | omega | decide) | exact rdn_blk rfl (by first | omega | (simp; omega) | (simp <;> fail) | omega) | exact rdn_nil | exact rdn_lit rfl (by repeat (first | exact litl_nil | apply litl_bv | refine litl_z rfl ?_)) rfl | exact rdn_oldX (by assumption) | exact rdn_oldR (by assumption) | exact rdn_oldX (FSX.cutB (by assumption) (by omega)) | exact rdn_old (by assumption) (by omega) rfl | exact rdn_old (FS.rd (by first | assumption | exact FSX.fs (by assumption) | (refine FS.cutB (by assumption) ?_; omega) | (refine FS.cut (by assumption) ?_; omega))) (by omega) rfl)
    (hup : Upd A off (min sl dl) (.c (vals k (l.take (min sl dl)))) A' := by (fail_if_success (with_reducible apply trap_upd)); repeat (first | ((with_reducible apply upd_vals); (· first | omega | (simp; omega)); (· (simp only [List.length_take]; omega))) | ((with_reducible apply upd_inL); (· exact (by (fail_if_success (with_reducible apply trap_sm)); first | ((with_reducible apply sm_vals); first | (with_reducible assumption) | (simp <;> fail) | rfl) | ((with_reducible apply sm_c); first | (with_reducible assumption) | rfl) | ((with_reducible apply sm_l); rfl))); (· omega)) | ((with_reducible apply upd_skipO); (· exact (by (fail_if_success (with_reducible apply trap_sm)); first | ((with_reducible apply sm_vals); first | (with_reducible assumption) | (simp <;> fail) | rfl) | ((with_reducible apply sm_c); first | (with_reducible assumption) | rfl) | ((with_reducible apply sm_l); rfl))); (· omega)))) :
    OpG C Try.prog ops ⟨dst, .call { callee := .builtin .copy, args := #[x, y], argTypes := #[t, sT] }, ty, pos, after, none⟩ S ⟨opT x ++ opT y, n :: (A'.sup ++ ns), dw dst (.c (.int .i64 ((min sl dl : Nat) : Int))), [(n, some (.blk n T0 A'))], []⟩ := by
  refine opG_mk rfl fun S' h1 h2 h3 e a w hS => ?_
  have hevx : a.eval x = .slice (some ⟨(e n).b, off, none⟩) dl dc := hS.ev ((ev_like h1 fun _ h => List.mem_append_left _ h).trans hx)
  have hevy : a.eval y = v2.den e := hS.ev ((ev_like h1 fun _ h => List.mem_append_right _ h).trans hy)
  have hr' := (h2 n (by simp)).trans hr
  obtain ⟨fr, hb, hfr⟩ := res_blk hS hr'
  rw [hfr rfl] at hb
  obtain ⟨hll, ad, c, hv, hrr⟩ := hrd S' e a w (fun q hq => h2 q (by simp [hq])) hS
  rw [valsL_length, Nat.mul_one] at hll
  obtain ⟨pre, old, post, g1, g2, g3, g4, g5⟩ := hup e
  have hu := tabAll_look undT_ok hu'
  have hs := tabAll_look sizT_ok hs'
  have hrun : (Builtin.copy_ #[t, sT] ty #[.slice (some ⟨(e n).b, off, none⟩) dl dc, .slice ad sl c]).run Try.prog w = .ok (goInt (min sl dl : Nat)) (w.setRow (e n).b (A'.den e)) := by
    have hA : ((A.den e).toList.take off ++ valsL k (l.take (min sl dl)) ++ (A.den e).toList.drop (off + (valsL k (l.take (min sl dl))).length)).toArray = A'.den e := by
      have l1 : pre.toList.length = off := by simpa using g2
      have l2 : old.toList.length = min sl dl := by simpa using g3
      have l3 : (valsL k (l.take (min sl dl))).length = min sl dl := by have : (valsL k (l.take (min sl dl))).toArray.size = min sl dl := g4; simpa using this
      apply Array.ext'
      rw [g1, g5]
      simp only [Array.toList_append, l3, List.append_assoc]
      rw [List.take_append_of_le_length (by omega), List.take_of_length_le (by omega), ← l1, ← l2, List.drop_append, List.drop_append]
      simp
      rw [List.drop_of_length_le (by simp), List.drop_of_length_le (by simp)]
      rfl
    have l3 : (valsL k (l.take (min sl dl))).length = min sl dl := by have : (valsL k (l.take (min sl dl))).toArray.size = min sl dl := g4; simpa using this
    cases ad with
    | some ad =>
      rw [run_copy_row Try.prog w t sT ty T (e n).b off dl dc ad sl c (A.den e) T0 (valsL k (l.take (min sl dl))) hu hs hb l3 ?_ ?_ (valsL_one _), hA, l3]
      · intro j u hu
        rcases hrr with h | ⟨b, o2, h, hrr⟩
        · subst h
          simp [valsL] at hu
        · cases h
          rw [Addr.add_mid]
          refine hrr j u ?_
          have hj : j < (valsL k (l.take (min sl dl))).length := (List.getElem?_eq_some_iff.1 hu).1
          rw [l3] at hj
          rw [← hu]
          simp only [valsL, List.map_take, List.getElem?_take, if_pos hj]
      · rw [l3, g1]
        simp only [Array.size_append]
        omega
    | none =>
      obtain rfl : sl = 0 := by
        rcases hrr with h | ⟨b, o2, h, _⟩
        · exact h
        · cases h
      have hself : A'.den e = A.den e := by
        rw [← hA]
        simp [valsL]
      rw [hself, Nat.zero_min, setRow_self w _ _ _ _ hb]
      cases hq : Try.prog.info? T with
      | none => simp [hq] at hs
      | some i =>
        have hi : i.size = 1 := by simpa [hq] using hs
        cases c <;> simp [Builtin.copy_, run_underlying hu, Builtin.lenOf, Builtin.firstCells, sizeOf, typeInfo, hq, storeCells]
  refine wp_value (v := .int .i64 ((min sl dl : Nat) : Int)) (w' := w.setRow (e n).b (A'.den e)) ?_ ⟨e, ?_⟩
  · rw [hv] at hevy
    simp only [execOp, resolve, invoke, builtin, Sem.run_bind, Sem.run_pure, Result.andThen_ok, List.map_toArray, List.map_cons, List.map_nil, hevx, hevy, hrun]
    rfl
  · refine (hS.write (w' := w.setRow (e n).b (A'.den e)) hr' rfl rfl rfl (by simp) ?_ (fun k hk => setRow_other w _ k _ hk)).put hd (.c _)
    exact setRow_heap w _ _ _ _ _ hb
end Go.Proofs.Ytihbiejgebmeaaa
namespace Go.Proofs.Ytihbiejgebmeaaa
open Go.RowKit
set_option maxRecDepth 100000
variable {C : Ctx} {ops : Array Oper} {S : St} {o : Oper}
/-! ### slices built of many values -/
theorem fill_ones : ∀ (us : List Value) (k : Nat) (B : Array Value), (∀ u ∈ us, u.cells = #[u]) → B.size = k + us.length →
    Instr.fill (fun i => some (i * 1, 1)) B ((us.zipIdx k).map fun p => (p.2, p.1)) = some (B.toList.take k ++ us).toArray
  | [], k, B, _, hB => by
    simp at hB
    simp [Instr.fill, List.take_of_length_le (show B.toList.length ≤ k by simp; omega)]
  | u :: us, k, B, h, hB => by
    have hu := h u (by simp)
    simp at hB
    rw [List.zipIdx_cons, List.map_cons, Instr.fill]
    dsimp only
    have h3 : (u.cells.zipIdx.foldl (fun cs x => cs.setIfInBounds (k * 1 + x.2) x.1) B) = B.setIfInBounds k u := by rw [hu]; simp
    split
    · rename_i hc
      exfalso
      rw [hu] at hc
      simp at hc
      omega
    · refine (congrArg (fun c => Instr.fill (fun i => some (i * 1, 1)) c ((us.zipIdx (k + 1)).map fun p => (p.2, p.1))) h3).trans ((fill_ones us (k + 1) _ (fun x hx => h x (by simp [hx])) (by simp; omega)).trans ?_)
      simp only [Array.toList_setIfInBounds]
      rw [List.take_succ_eq_append_getElem (by simp; omega)]
      simp [List.take_set_of_le]
def EvL1 (S : St) : List (Nat × Operand) → Nat → List SV → Prop
  | [], _, [] => True
  | p :: ps, k, v :: vs => p.1 = k ∧ S.ev p.2 = some v ∧ EvL1 S ps (k + 1) vs
  | _, _, _ => False
theorem evl1_nil {k : Nat} : EvL1 S [] k [] := trivial
theorem evl1_cons {k : Nat} {x : Operand} {v : SV} {ps : List (Nat × Operand)} {vs : List SV} (hx : S.ev x = some v) (h : EvL1 S ps (k + 1) vs) : EvL1 S ((k, x) :: ps) k (v :: vs) := ⟨rfl, hx, h⟩
/-- Values that take one cell each. -/
def OneS (C : Ctx) (S : St) (rb : List Nat) (vs : List SV) : Prop := ∀ (S' : St) e a w, Holds C S' e a w → (∀ q ∈ rb, S'.res q = S.res q) → ∀ v ∈ vs, (v.den e).cells = #[v.den e]
theorem ones_nil : OneS C S [] [] := fun _ _ _ _ _ _ v hv => by cases hv
theorem ones_one {v : SV} {rb : List Nat} {vs : List SV} (h : ∀ e, (v.den e).cells = #[v.den e]) (h2 : OneS C S rb vs) : OneS C S rb (v :: vs) := fun S' e a w hS hq u hu => by
  rcases List.mem_cons.1 hu with rfl | hu
  · exact h e
  · exact h2 S' e a w hS hq u hu
theorem own_cells {w : World} {T size len : Nat} {xs : List Value} {v : Value} (h : w.ownsRow 0 T size v len xs) : v.cells = #[v] := by
  rcases h.2 with ⟨h3, _⟩ | ⟨g, cap, cur, h3, _⟩ <;> rw [h3] <;> rfl
theorem ones_own {q T0 size len : Nat} {xs : List Value} {rb : List Nat} {vs : List SV} (hr : S.res q = some (.own q T0 size len xs)) (h2 : OneS C S rb vs) : OneS C S (q :: rb) (.v q :: vs) := fun S' e a w hS hq u hu => by
  rcases List.mem_cons.1 hu with rfl | hu
  · exact own_cells (hS.res q _ ((hq q (by simp)).trans hr))
  · exact h2 S' e a w hS (fun x hx => hq x (List.mem_cons_of_mem _ hx)) u hu
theorem ones_sub {q T0 size len lo cnt : Nat} {xs : List Value} {rb : List Nat} {vs : List SV} (hr : S.res q = some (.own q T0 size len xs)) (h2 : OneS C S rb vs) : OneS C S (q :: rb) (.sub q lo cnt :: vs) := fun S' e a w hS hq u hu => by
  rcases List.mem_cons.1 hu with rfl | hu
  · have h : w.ownsRow 0 T0 size (e q).v len xs := hS.res q _ ((hq q (by simp)).trans hr)
    show (cutV (e q).v lo cnt).cells = #[cutV (e q).v lo cnt]
    rcases h.2 with ⟨h3, _⟩ | ⟨g, cap, cur, h3, _⟩ <;> rw [h3] <;> rfl
  · exact h2 S' e a w hS (fun x hx => hq x (List.mem_cons_of_mem _ hx)) u hu
theorem op_bsliceL {t T n len : Nat} {parts : Array (Nat × Operand)} {vs : List SV} {Z : Array Value} {rb : List Nat} (ho : o.op = .buildSlice t len parts) (hl : EvL1 S parts.toList 0 vs) (hlen : vs.length = len) (hdn : o.dst = some n) (hg : o.guard = none) (hd : dstB o.dst C.nt = true) (hu' : tabLook undT t = some (.slice T)) (hs' : tabLook sizT T = some 1) (hz' : tabLook zerT T = some Z) (hZ : Z.size = 1) (hsz : (decide (0 < len) && decide (len < 10000)) = true) (hA : OneS C S rb vs) (hn : ((SA.l vs).sup.any fun y => Nat.beq n y) = false) :
    OpG C Try.prog ops o S ⟨parts.toList.flatMap fun p => opT p.2, rb ++ (SA.l vs).sup, [(n, .s n 0 len len)], [(n, some (.blk n T (.l vs)))], [n]⟩ := by
  refine opG_mk hg fun S' h1 h2 h3 e a w hS => ?_
  have hns : n ∉ (SA.l vs).sup := fun h => by have := List.any_eq_false.1 hn n h; simp at this
  simp only [Bool.and_eq_true, decide_eq_true_eq] at hsz
  have hN := hS.newBlk (h3 n (by simp)) T (.l vs) hns
  have hone := hA S' e a w hS fun q hq => h2 q (List.mem_append_left _ hq)
  have hu := tabAll_look undT_ok hu'
  have hz := tabAll_look zerT_ok hz'
  obtain ⟨zv, hz3, hzc⟩ : ∃ zv, (zeroValue T).run Try.prog w = .ok zv w ∧ zv.cells = Z := by
    cases hb : (Try.prog.info? T) with
    | none => simp [hb] at hz
    | some i =>
      cases hc : i.zero with
      | none => simp [hb, hc] at hz
      | some zz => exact ⟨zz, by simp [zeroValue, typeInfo, hb, hc], by simpa [hb, hc] using hz⟩
  have hp : ∀ (ps : List (Nat × Operand)) (k : Nat) (vs : List SV), EvL1 S ps k vs → (∀ p ∈ ps, S'.ev p.2 = S.ev p.2) → ps.map (fun p => (p.1, a.eval p.2)) = ((vs.map (·.den e)).zipIdx k).map fun p => (p.2, p.1) := by
    intro ps
    induction ps with
    | nil =>
      intro k vs h _
      cases vs with
      | nil => rfl
      | cons v vs => exact h.elim
    | cons p ps ih =>
      intro k vs h hq
      cases vs with
      | nil => exact h.elim
      | cons v vs =>
        have he := hS.ev ((hq p (by simp)).trans h.2.1)
        simp only [List.map_cons, List.zipIdx_cons]
        rw [ih (k + 1) vs h.2.2 fun x hx => hq x (List.mem_cons_of_mem _ hx), he, h.1]
  have hparts := hp parts.toList 0 vs hl fun p hp => ev_like h1 fun i hi => List.mem_flatMap.2 ⟨p, hp, hi⟩
  have hpa : parts.map (fun p => (p.1, a.eval p.2)) = (((vs.map (·.den e)).zipIdx 0).map fun p => (p.2, p.1)).toArray := by
    rw [← hparts, ← Array.toList_map, Array.toArray_toList]
  refine wp_value (v := .slice (some ⟨w.heap.size, 0, none⟩) len len) (w' := w.alloc (.cells ((SA.l vs).den e) T)) ?_ ⟨e.set n ⟨w.heap.size, 0, undef⟩, ?_⟩
  · have hne : ¬ len = 0 := by omega
    have hfill := fill_ones (vs.map (·.den e)) 0 ((Array.range len).map fun x => Z[x % Z.size]!) (fun u hu => by
      obtain ⟨v, hv, rfl⟩ := List.mem_map.1 hu
      exact hone v hv) (by simp [hlen])
    simp only [execOp, ho, Instr.buildSlice, Sem.run_bind, run_underlying hu w, Result.andThen_ok, run_sizeT hs' w, Nat.mul_one, Sem.run_ite]
    simp only [show ¬ (len > 2 ^ 24) from by omega, if_false, hne, Sem.run_bind, hz3, Result.andThen_ok, Sem.run_pure, hzc, hpa]
    simp only [Nat.mul_one] at hfill ⊢
    rw [hfill]
    simp [newRow, SA.l]
  · rw [hdn]
    have hd' : dstB (some n) C.nt = true := by rw [← hdn]; exact hd
    have := hN.put hd' (.s n 0 len len)
    simp only [SV.s, Env.set_self] at this
    exact this
/-! ### slices of slices, told of a state -/
def FSQ (C : Ctx) (S : St) (ns : List Nat) (v : SV) (d : List (BitVec 8)) : Prop := ∀ (S' : St) e a w, (∀ x ∈ ns, S'.res x = S.res x) → Holds C S' e a w → FS w 1 (v.den e) d.length (valsL .u8 d)
def FSQs (C : Ctx) (S : St) (ns : List Nat) (vs : List SV) (ds : List (List (BitVec 8))) : Prop := vs.length = ds.length ∧ ∀ (i : Nat) d, ds[i]? = some d → ∃ v, vs[i]? = some v ∧ FSQ C S ns v d
def SlcQ (C : Ctx) (S : St) (ns : List Nat) (v : SV) (ds : List (List (BitVec 8))) : Prop := ∀ e, ∃ ps, (∀ (S' : St) a w, (∀ x ∈ ns, S'.res x = S.res x) → Holds C S' e a w → RdV w 1 (v.den e) ds.length ps) ∧ ∀ (i : Nat) d, ds[i]? = some d → ∃ p, ps[i]? = some p ∧ ∀ (S' : St) a w, (∀ x ∈ ns, S'.res x = S.res x) → Holds C S' e a w → FS w 1 p d.length (valsL .u8 d)
theorem FSQ.more {ns ns' : List Nat} {v : SV} {d : List (BitVec 8)} (h : FSQ C S ns v d) (hs : ∀ x ∈ ns, x ∈ ns') : FSQ C S ns' v d := fun S' e a w hq hS => h S' e a w (fun x hx => hq x (hs x hx)) hS
theorem fsqs_nil : FSQs C S [] [] [] := ⟨rfl, fun i d h => by simp at h⟩
theorem fsqs_cons {ns1 ns2 : List Nat} {v : SV} {d : List (BitVec 8)} {vs : List SV} {ds : List (List (BitVec 8))} (h : FSQ C S ns1 v d) (h2 : FSQs C S ns2 vs ds) : FSQs C S (ns1 ++ ns2) (v :: vs) (d :: ds) := by
  refine ⟨by simp [h2.1], fun i x hx => ?_⟩
  cases i with
  | zero => simp at hx; subst hx; exact ⟨v, rfl, h.more fun x hx => List.mem_append_left _ hx⟩
  | succ i =>
    obtain ⟨u, h3, h4⟩ := h2.2 i x (by simpa using hx)
    exact ⟨u, by simpa using h3, h4.more fun x hx => List.mem_append_right _ hx⟩
theorem fsq_own {n : Nat} {T k : Nat} {d : List (BitVec 8)} (hr : S.res n = some (.own n T 1 k (valsL .u8 d))) : FSQ C S [n] (.v n) d := fun S' e a w hq hS => by
  have h := fs_own ((hq n (by simp)).trans hr) hS
  have hk : k = d.length := by have := h.1.1; rw [valsL_length] at this; omega
  subst hk; exact h
theorem fsq_whole {n : Nat} {T : TypeId} {wr : Bool} {l : List (BitVec 8)} {len cap : Nat} (hr : S.res n = some (.blk n T (.c (vals .u8 l)) wr)) (hc : l.length = len) (hcap : len ≤ cap) : FSQ C S [n] (.s n 0 len cap) l := fun S' e a w hq hS => by
  subst hc
  exact ⟨rdn_whole hr rfl S' e a w hq hS, _, _, rfl, hcap⟩
theorem fsq_ones {n : Nat} {T : TypeId} {wr : Bool} {z : Int} {cap : Nat} (hr : S.res n = some (.blk n T (.l [SV.c (.int .u8 z)]) wr)) (hz : (decide (0 ≤ z) && decide (z < 2 ^ 8)) = true) (hcap : 1 ≤ cap) : FSQ C S [n] (.s n 0 1 cap) [BitVec.ofInt 8 z] := fun S' e a w hq hS => ⟨rdn_ones hr hz S' e a w hq hS, _, _, rfl, hcap⟩
theorem fsq_one {n : Nat} {T : TypeId} {wr : Bool} {x : BitVec 8} {cap : Nat} (hr : S.res n = some (.blk n T (.l [SV.c (.int .u8 (bvi x))]) wr)) (hcap : 1 ≤ cap) : FSQ C S [n] (.s n 0 1 cap) [x] := fun S' e a w hq hS => ⟨rdn_one hr S' e a w hq hS, _, _, rfl, hcap⟩
theorem fsq_nil : FSQ C S [] (.c (.slice none 0 0)) [] := fun _ _ _ _ _ _ => ⟨⟨by simp [valsL], none, 0, rfl, .inl rfl⟩, none, 0, rfl, Nat.le_refl _⟩
theorem fsq_old {v : Value} {d : List (BitVec 8)} {k : Nat} (h : FSX C.w0 C.m 1 v k (valsL .u8 d)) : FSQ C S [] (.c v) d := fun S' e a w hq hS => by
  have hk : k = d.length := by have := h.fs.1.1; rw [valsL_length] at this; omega
  subst hk; exact h w hS.frame.belowX
theorem slcq_list {n : Nat} {T : TypeId} {vs : List SV} {wr : Bool} {ns : List Nat} {ds : List (List (BitVec 8))} {k cap : Nat} (hr : S.res n = some (.blk n T (.l vs) wr)) (h : FSQs C S ns vs ds) (hk : k = ds.length) : SlcQ C S (n :: ns) (.s n 0 k cap) ds := by
  subst hk
  refine fun e => ⟨vs.map (·.den e), fun S' a w hq hS => ?_, fun i d hd => ?_⟩
  · obtain ⟨fr, hb, _⟩ := res_blk hS ((hq n (by simp)).trans hr)
    refine ⟨by simp [h.1], some ⟨(e n).b, 0, none⟩, cap, rfl, .inr ⟨(e n).b, 0, rfl, fun j u hu => ?_⟩⟩
    rw [cell_of_row w _ _ _ _ _ hb, Nat.zero_add]
    simpa [SA.l] using hu
  · obtain ⟨v, h1, h2⟩ := h.2 i d hd
    exact ⟨v.den e, by simp [h1], fun S' a w hq hS => h2 S' e a w (fun x hx => hq x (List.mem_cons_of_mem _ hx)) hS⟩
theorem slcq_row {n : Nat} {T : TypeId} {ps : List Value} {ds : List (List (BitVec 8))} {k : Nat} (hr : S.res n = some (.own n T 1 k ps)) (hk : k = ds.length) (hp : ∀ (i : Nat) d, ds[i]? = some d → ∃ p, ps[i]? = some p ∧ FSX C.w0 C.m 1 p d.length (valsL .u8 d)) : SlcQ C S [n] (.v n) ds := by
  subst hk
  refine fun e => ⟨ps, fun S' a w hq hS => (fs_own ((hq n (by simp)).trans hr) hS).1, fun i d hd => ?_⟩
  obtain ⟨p, h1, h2⟩ := hp i d hd
  exact ⟨p, h1, fun S' a w _ hS => h2 w hS.frame.belowX⟩
theorem slcq_old {v : Value} {ds : List (List (BitVec 8))} (h : SlcX C.w0 C.m v ds) : SlcQ C S [] (.c v) ds := by
  obtain ⟨ps, h1, h2⟩ := h
  refine fun e => ⟨ps, fun S' a w _ hS => h1 w hS.frame.belowX, fun i d hd => ?_⟩
  obtain ⟨p, h3, h4⟩ := h2 i d hd
  exact ⟨p, h3, fun S' a w _ hS => h4 w hS.frame.belowX⟩
theorem SlcQ.at {ns : List Nat} {v : SV} {ds : List (List (BitVec 8))} (h : SlcQ C S ns v ds) {S' : St} {e : Env} {a : Act} {w : World} (hq : ∀ x ∈ ns, S'.res x = S.res x) (hS : Holds C S' e a w) : SlcL w (v.den e) ds := by
  obtain ⟨ps, h1, h2⟩ := h e
  refine ⟨ps, h1 S' a w hq hS, fun i d hd => ?_⟩
  obtain ⟨p, h3, h4⟩ := h2 i d hd
  exact ⟨p, h3, h4 S' a w hq hS⟩
/-! ### ... beside an object -/
theorem Holds.loseX {e : Env} {a : Act} {w w' : World} (hS : Holds C S e a w) {n : Nat} {T : TypeId} {A : SA} (hr : S.res n = some (.blk n T A)) (hx : BelowX w w' [(e n).b]) : Holds C ⟨S.t, (n, none) :: S.h⟩ e a w' := by
  have hm : ∀ b, b = (e n).b → C.mine b := fun b hb => hS.mine n _ hr rfl b hb
  refine ⟨hS.defers, hS.size, hS.tmp, fun m r h => ?_, fun m r h hw b hb => ?_, fun m k r r' h h' hne hw b hb => ?_, ⟨hx.os.trans hS.frame.os, hx.tape.trans hS.frame.tape, hx.output.trans hS.frame.output, Nat.le_trans hS.frame.size hx.size, fun k hk hkm => ?_⟩⟩
  · rw [St.res_cons] at h
    split at h
    · cases h
    · rename_i hne
      refine r.loc e w w' (fun b hb => hx.block b (r.lt e w b (hS.res m r h) hb) fun he => ?_) (hS.res m r h)
      have he : b = (e n).b := by simpa using he
      exact hS.sep n m _ r hr h hne rfl (e n).b rfl (he ▸ hb)
  · rw [St.res_cons] at h
    split at h
    · cases h
    · exact hS.mine m r h hw b hb
  · rw [St.res_cons] at h h'
    split at h
    · cases h
    · split at h'
      · cases h'
      · exact hS.sep m k r r' h h' hne hw b hb
  · rw [hx.block k (Nat.lt_of_lt_of_le hk hS.frame.size) ?_]
    · exact hS.frame.block k hk hkm
    · intro he
      have he : k = (e n).b := by simpa using he
      rcases hm k he with h | h
      · exact absurd hk (by omega)
      · exact hkm h
theorem callP_s {n T j : Nat} {vs : List SV} {A : SA} {cells0 cells : Array Value} {u : Value} {ns : List Nat} {v : SV} {ds : List (List (BitVec 8))} (hr : S.res n = some (.blk n T A)) (hA : ∀ e, A.den e = cells0) (h1 : SlcQ C S ns v ds) (hn : (ns.any fun y => Nat.beq n y) = false)
    (h : ∀ (e : Env) w, Blk w (e n).b cells0 T → SlcX w [(e n).b] (v.den e) ds → Calls Try.prog j (vs.map (·.den e)).toArray w (RetP w (e n).b T cells u)) : CallP C S (n :: ns) n T j vs cells u := fun S' e a w hS hq => by
  have hr' := (hq n (by simp)).trans hr
  obtain ⟨fr, hb, hfr⟩ := res_blk hS hr'
  rw [hfr rfl, hA] at hb
  refine h e w hb ?_
  have hns : ∀ x ∈ ns, n ≠ x := fun x hx he => by have := List.any_eq_false.1 hn x hx; rw [he] at this; simp at this
  have key : ∀ w', BelowX w w' [(e n).b] → ∃ S'' : St, Holds C S'' e a w' ∧ ∀ x ∈ ns, S''.res x = S.res x := fun w' hw => ⟨_, hS.loseX hr' hw, fun x hx => by
    rw [St.res_cons, if_neg (hns x hx)]
    exact hq x (List.mem_cons_of_mem _ hx)⟩
  obtain ⟨ps, g1, g2⟩ := h1 e
  refine ⟨ps, fun w' hw => ?_, fun i d hd => ?_⟩
  · obtain ⟨S'', k1, k2⟩ := key w' hw
    exact g1 S'' a w' k2 k1
  · obtain ⟨p, h3, h4⟩ := g2 i d hd
    exact ⟨p, h3, fun w' hw => by
      obtain ⟨S'', k1, k2⟩ := key w' hw
      exact h4 S'' a w' k2 k1⟩
theorem callM_s {ns : List Nat} {j : FuncId} {vs : List SV} {v : SV} {ds : List (List (BitVec 8))} {u : Value} (h1 : SlcQ C S ns v ds) (h : ∀ (e : Env) w, SlcL w (v.den e) ds → Calls Try.prog j (vs.map (·.den e)).toArray w fun r w' => r = .returned u ∧ Below w.heap.size w w') : CallM C S ns j vs u := fun S' e a w hS hq => h e w (h1.at hq hS)
theorem callO_s {ns : List Nat} {j : FuncId} {vs : List SV} {v : SV} {T size len : Nat} {xs : List Value} {ds : List (List (BitVec 8))} (h1 : SlcQ C S ns v ds) (h : ∀ (e : Env) w, SlcL w (v.den e) ds → Calls Try.prog j (vs.map (·.den e)).toArray w (RetOwn w T size len xs)) : CallO C S ns j vs T size len xs := fun S' e a w hS hq => h e w (h1.at hq hS)
section
variable {P : Program} {l : List Oper} {acc : List OS} {t : List (Nat × SV)} {h : List (Nat × Option Res)} {rt rb x : List Nat} {d n : Nat} {v : SV} {r : Option Res}
theorem walk_tb {K : St → List OS → Prop} (ho : OpG C P ops o ⟨t, h⟩ ⟨rt, rb, [(d, v)], [(n, r)], []⟩) (ht : WalkTo C P ops [] l ⟨(d, v) :: t, (n, r) :: h⟩ (⟨x ++ rt, rb, [(d, v)], [(n, r)], []⟩ :: acc) K) : WalkTo C P ops x (o :: l) ⟨t, h⟩ acc K := ⟨⟨rt, rb, [(d, v)], [(n, r)], []⟩, opG_more x ho, rfl, ht⟩
theorem op_cutP2 {x : Operand} {t T : TypeId} {n off len lo hi : Nat} {ol oh : Option Operand} (ho : o.op = .slice t x ol oh none) (hg : o.guard = none) (hd : dstB o.dst C.nt = true) (hx : S.ev x = some (.p n off)) (hu' : tabLook undT t = some (.array len T)) (hs' : tabLook sizT T = some 1) (hl : EvO S ol 0 lo := by first | exact evO_none | exact evO_some (by first | exact evK_const rfl | exact evK_tmp rfl)) (hh : EvO S oh len hi := by first | exact evO_none | exact evO_some (by first | exact evK_const rfl | exact evK_tmp rfl)) (h1 : lo ≤ hi := by first | omega | decide) (h2 : hi ≤ len := by first | omega | decide) (h3 : lo < len := by first | omega | decide) :
    OpG C Try.prog ops o S ⟨opT x ++ (opO ol ++ opO oh), [n], dw o.dst (.s n (off + lo) (hi - lo) (len - lo)), [], []⟩ :=
  op_cutP ho hg hd hx hu' hs' hl hh h1 h2 (by rw [if_neg (by omega)]; omega)
end
/-! ### slices made -/
theorem op_makeB {t T n len by_ : Nat} {x y : Operand} {k : IntKind} {m : Nat} (ho : o.op = .makeSlice t x y) (hdn : o.dst = some n) (hg : o.guard = none) (hd : dstB o.dst C.nt = true) (hx : EvN S x len) (hy : EvN S y len) (hu' : tabLook undT t = some (.slice T)) (hs' : tabLook sizT T = some 1) (hy' : tabLook bytT T = some by_) (hz' : tabLook zerT T = some #[.int k 0]) (hlen : len * by_ ≤ 281474976710656 ∧ len ≤ 1099511627776) :
    OpG C Try.prog ops o S ⟨opT x ++ opT y, [], [(n, .v n)], [(n, some (.own n T 1 len (valsL k (List.replicate len (0#m)))))], [n]⟩ := by
  refine opG_mk hg fun S' h1 h2 h3 e a w hS => ?_
  have hevx : a.eval x = .int .i64 ((len : Nat) : Int) := hS.ev ((ev_like h1 fun _ h => List.mem_append_left _ h).trans hx)
  have hevy : a.eval y = .int .i64 ((len : Nat) : Int) := hS.ev ((ev_like h1 fun _ h => List.mem_append_right _ h).trans hy)
  have hu := tabAll_look undT_ok hu'
  have hs := tabAll_look sizT_ok hs'
  have hz := tabAll_look zerT_ok hz'
  have hby := tabAll_look bytT_ok hy'
  cases hb : (Try.prog.info? T) with
  | none => simp [hb] at hz
  | some i =>
    cases hc : i.zero with
    | none => simp [hb, hc] at hz
    | some zz =>
      have hzc : zz.cells = #[.int k 0] := by simpa [hb, hc] using hz
      have his : i.size = 1 := by simpa [hb] using hs
      have hib : i.bytes = by_ := by simpa [hb] using hby
      have hr := run_make (P := Try.prog) w t T i zz hu hb hc .i64 .i64 (len : Int) (len : Int) (by omega) (Int.le_refl _) (by rw [hib, ← Int.natCast_mul, Nat.mul_comm]; omega) (by omega)
      simp only [Int.toNat_natCast, his, Nat.mul_one, hzc] at hr
      have hmc : (madeCells #[Value.int k 0] len).toList = valsL k (List.replicate len (0#m)) := by
        simp only [madeCells, valsL, List.map_replicate, Array.toList_map, Array.toList_range]
        apply List.ext_getElem (by simp)
        intro j h1 h2
        have h0 : j % 1 = 0 := Nat.mod_one j
        simp [h0, bvi]
      have hrun : (execOp a.eval o).run Try.prog w = .ok (.value (.slice (some ⟨w.heap.size, 0, none⟩) len len)) (w.alloc (.cells (madeCells #[.int k 0] len) T)) := by
        simp only [execOp, ho, hevx, hevy, Sem.run_bind, hr, Result.andThen_ok, Sem.run_pure]
      have hown := World.ownsRow_lit (base := w.heap.size) (e := T) (size := 1) w (madeCells #[.int k 0] len) len (Nat.le_refl _) (by simp only [maxLen]; omega) (by rw [size_madeCells, Nat.mul_one])
      rw [hmc] at hown
      have hH := hS.ownNew (n := n) (h3 n (by simp)) ((Below.refl _ _).alloc (Nat.le_refl _) _) hown
      refine wp_value hrun ⟨e.set n ⟨0, 0, .slice (some ⟨w.heap.size, 0, none⟩) len len⟩, ?_⟩
      rw [hdn]
      have hd' : dstB (some n) C.nt = true := by rw [← hdn]; exact hd
      have := hH.put hd' (.v n)
      simp only [SV.v, Env.set_self] at this
      exact this
end Go.Proofs.Ytihbiejgebmeaaa
