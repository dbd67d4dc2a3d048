/- A closure called; a capacity; a slice grown out of none; what is left of an own slice that is cut; an array behind a slice that lay there. No condition. -/
import Derived.Test.YtgjlpnendljcaaaSymX
import Derived.Test.YtgjlpnendljcaaaSymQ
import Derived.Lib.AppendZeros
namespace Go.Proofs.Ytgjlpnendljcaaa
open Go.RowKit
set_option maxRecDepth 100000
set_option maxHeartbeats 1000000
variable {C : Ctx} {ops : Array Oper} {S : St} {o : Oper}
/-! ### a closure that holds nothing -/
theorem op_callOV {t0 f : Nat} {xs : Array Operand} {ats : Array TypeId} {vs : List SV} {rb : List Nat} {j n T size len : Nat} {ys : List Value} (ho : o.op = .call { callee := .value (.tmp t0), args := xs, argTypes := ats }) (hcal : S.ev (.tmp t0) = some (.c (.func (.func f) #[] #[]))) (hdn : o.dst = some n) (hg : o.guard = none) (hd : dstB o.dst C.nt = true) (hxs : EvS S xs.toList vs) (hc' : tabLook calT f = some j) (hcon : CallO C S rb j vs T size len ys) :
    OpG C Try.prog ops o S ⟨t0 :: xs.toList.flatMap opT, rb, [(n, .v n)], [(n, some (.own n T size len ys))], [n]⟩ := by
  refine opG_mk hg fun S' h1 h2 h3 e a w hS => ?_
  have hev : xs.toList.map S'.ev = vs.map some := by
    rw [← show xs.toList.map S.ev = vs.map some from hxs]
    exact List.map_congr_left fun x hx => ev_like h1 fun i hi => List.mem_cons_of_mem _ (List.mem_flatMap.2 ⟨x, hx, hi⟩)
  have hargs : xs.map a.eval = (vs.map (·.den e)).toArray := by
    rw [← evs_all hS _ _ hev, ← Array.toList_map, Array.toArray_toList]
  have hfn : a.eval (.tmp t0) = .func (.func f) #[] #[] := hS.ev ((ev_like h1 fun i hi => by simp [opT] at hi; subst hi; exact List.mem_cons_self).trans hcal)
  have hcall := tabAll_look calT_ok hc'
  have hop : (execOp a.eval o).run Try.prog w = .ok (.enter j (vs.map (·.den e)).toArray) w := by
    simp only [execOp, ho, resolve, hfn, Deferred.ofValue, Sem.run_bind, Sem.run_pure, Result.andThen_ok, invoke, Array.empty_append, Array.append_empty, hargs]
    exact hcall _ w
  unfold Oper.wp
  rw [hop]
  refine Calls.mono (hcon S' e a w hS h2) ?_
  rintro r w' ⟨v, rfl, hown, hb⟩
  have := (hS.ownNew (n := n) (h3 n (by simp)) hb hown).put hd (.v n)
  simp only [SV.v, Env.set_self] at this
  rw [hdn] at this ⊢
  exact ⟨_, this⟩
section
variable {l : List Oper} {t : List (Nat × SV)} {h : List (Nat × Option Res)} {d t0 : Nat} {f j : FuncId} {xs : Array Operand} {ats : Array TypeId} {vs : List SV}
theorem walk1_callOV {K : St → Prop} (ho : o.op = .call { callee := .value (.tmp t0), args := xs, argTypes := ats }) (hcal : (St.mk t h).ev (.tmp t0) = some (.c (.func (.func f) #[] #[]))) (hdn : o.dst = some d) (hg : o.guard = none) (hd : dstB o.dst C.nt = true) (hf : freshB ⟨t, h⟩ d = true) (hxs : EvS ⟨t, h⟩ xs.toList vs) (hc' : tabLook calT f = some j)
    (hK : ∃ rb T size len ys, CallO C ⟨t, h⟩ rb j vs T size len ys ∧ Walk1 C Try.prog ops l ⟨(d, .v d) :: t, (d, some (.own d T size len ys)) :: h⟩ K) : Walk1 C Try.prog ops (o :: l) ⟨t, h⟩ K := by
  obtain ⟨rb, T, size, len, ys, h1, h2⟩ := hK
  exact walk1_n (op_callOV (C := C) (ops := ops) ho hcal hdn hg hd hxs hc' h1) hf h2
theorem walk_callOV {x : List Nat} {acc : List OS} {K : St → List OS → Prop} (ho : o.op = .call { callee := .value (.tmp t0), args := xs, argTypes := ats }) (hcal : (St.mk t h).ev (.tmp t0) = some (.c (.func (.func f) #[] #[]))) (hdn : o.dst = some d) (hg : o.guard = none) (hd : dstB o.dst C.nt = true) (hf : freshB ⟨t, h⟩ d = true) (hxs : EvS ⟨t, h⟩ xs.toList vs) (hc' : tabLook calT f = some j)
    (hK : ∃ rb T size len ys, CallO C ⟨t, h⟩ rb j vs T size len ys ∧ WalkTo C Try.prog ops [] l ⟨(d, .v d) :: t, (d, some (.own d T size len ys)) :: h⟩ (⟨x ++ (t0 :: xs.toList.flatMap opT), rb, [(d, .v d)], [(d, some (.own d T size len ys))], [d]⟩ :: acc) K) : WalkTo C Try.prog ops x (o :: l) ⟨t, h⟩ acc K := by
  obtain ⟨rb, T, size, len, ys, h1, h2⟩ := hK
  exact walk_n (op_callOV (C := C) (ops := ops) ho hcal hdn hg hd hxs hc' h1) hf h2
end
section
variable {dst : Option Tmp} {x y : Operand} {t T ty : TypeId} {pos : String} {after : Array Edge}
theorem op_capC {a : Option Addr} {n c : Nat} (hd : dstB dst C.nt = true) (hx : S.ev x = some (.c (.slice a n c))) (hu' : tabLook undT t = some (.slice T)) : OpG C Try.prog ops ⟨dst, .call { callee := .builtin .cap, args := #[x], argTypes := #[t] }, ty, pos, after, none⟩ S ⟨opT x, [], dw dst (.c (.int .i64 ((c : Nat) : Int))), [], []⟩ :=
  op_one (v := .c (.int .i64 ((c : Nat) : Int))) rfl hd hx fun e ρ w h1 => by
    have h1' : ρ x = .slice a n c := h1
    have hu := tabAll_look undT_ok hu'
    simp [execOp, resolve, invoke, builtin, Builtin.cap_, Sem.run_bind, Sem.run_pure, Result.andThen_ok, run_underlying hu, h1', goInt, SV.c]
theorem zero_cells (u : Value) (n : Nat) : (Builtin.zeroCells #[u] n).toList = List.replicate n u := by
  simp only [Builtin.zeroCells, Array.toList_map, Array.toList_range]
  apply List.ext_getElem (by simp)
  intro j h1 h2
  have h0 : j % 1 = 0 := Nat.mod_one j
  simp [h0]
/-- None, and so many zeros behind it. -/
theorem op_appendZ {tn : TypeId} {n cnt by_ : Nat} {k kn : IntKind} {m : Nat} (hd : dstB (some n) C.nt = true) (hx : S.ev x = some (.c (.slice none 0 0))) (hy : EvN S y cnt) (hu' : tabLook undT t = some (.slice T)) (hn' : tabLook undT tn = some (.int kn)) (hs' : tabLook sizT T = some 1) (hy' : tabLook bytT T = some by_) (hz' : tabLook zerT T = some #[.int k 0]) (h0 : 0 < cnt) (hmax : cnt * by_ ≤ 140737488355328 ∧ cnt ≤ 1099511627776) :
    OpG C Try.prog ops ⟨some n, .call { callee := .builtin .append, args := #[x, y], argTypes := #[t, tn] }, ty, pos, after, none⟩ S ⟨opT x ++ opT y, [], [(n, .v n)], [(n, some (.own n T 1 cnt (valsL k (List.replicate cnt (0#m)))))], [n]⟩ := by
  refine opG_mk rfl fun S' h1 h2 h3 e a w hS => ?_
  have hevx : a.eval x = .slice none 0 0 := hS.ev ((ev_like h1 fun _ h => List.mem_append_left _ h).trans hx)
  have hevy : a.eval y = .int .i64 ((cnt : Nat) : Int) := hS.ev ((ev_like h1 fun _ h => List.mem_append_right _ h).trans hy)
  have hu := tabAll_look undT_ok hu'
  have hn := tabAll_look undT_ok hn'
  have hs := tabAll_look sizT_ok hs'
  have hz := tabAll_look zerT_ok hz'
  have hby := tabAll_look bytT_ok hy'
  cases hb : (Try.prog.info? T) with
  | none => simp [hb] at hz
  | some i =>
    cases hc : i.zero with
    | none => simp [hb, hc] at hz
    | some zz =>
      have hzc : zz.cells = #[.int k 0] := by simpa [hb, hc] using hz
      have his : i.size = 1 := by simpa [hb] using hs
      have hib : i.bytes = by_ := by simpa [hb] using hby
      have hr := Lib.run_append_nil_zeros (P := Try.prog) w t tn ty T i zz .i64 kn hu hn hb hc cnt h0 (by omega) (by omega) (by rw [hib]; omega)
      have hG1 : cnt ≤ grownCap w cnt 0 T := grownCap_ge w _ _ _
      have hG2 := grownCap_le_maxLen w cnt 0 T (by unfold maxLen; omega)
      rw [hzc] at hr
      generalize grownCap w cnt 0 T = G at *
      have hown : (w.drew.alloc (.cells (Builtin.zeroCells #[Value.int k 0] cnt ++ Builtin.zeroCells #[Value.int k 0] (G - cnt)) T)).ownsRow w.heap.size T 1 (.slice (some ⟨w.heap.size, 0, none⟩) cnt G) cnt (valsL k (List.replicate cnt (0#m))) := by
        refine ⟨by rw [valsL_length, List.length_replicate, Nat.mul_one], .inr ⟨w.heap.size, G, Builtin.zeroCells #[Value.int k 0] cnt ++ Builtin.zeroCells #[Value.int k 0] (G - cnt), rfl, Nat.le_refl _, ?_, hG1, hG2, ?_, ?_⟩⟩
        · show (w.drew.heap.push _)[w.heap.size]? = _
          exact Array.getElem?_push_size
        · rw [Array.size_append, ← Array.length_toList, ← Array.length_toList, zero_cells, zero_cells, List.length_replicate, List.length_replicate, Nat.mul_one]
          exact Nat.add_sub_of_le hG1
        · rw [Array.toList_append, zero_cells, Nat.mul_one, List.take_append_of_le_length (by simp), List.take_of_length_le (by simp)]
          simp [valsL, bvi]
      have hrun : (execOp a.eval ⟨some n, .call { callee := .builtin .append, args := #[x, y], argTypes := #[t, tn] }, ty, pos, after, none⟩).run Try.prog w = .ok (.value (.slice (some ⟨w.heap.size, 0, none⟩) cnt G)) (w.drew.alloc (.cells (Builtin.zeroCells #[Value.int k 0] cnt ++ Builtin.zeroCells #[Value.int k 0] (G - cnt)) T)) := by
        simp only [execOp, resolve, invoke, builtin, Sem.run_bind, Sem.run_pure, Result.andThen_ok, List.map_toArray, List.map_cons, List.map_nil, hevx, hevy, hr]
      have hH := hS.ownNew (n := n) (h3 n (by simp)) (Below.alloc (Below.drew (Below.refl _ _)) (Nat.le_refl _) _) hown
      refine wp_value hrun ⟨e.set n ⟨0, 0, .slice (some ⟨w.heap.size, 0, none⟩) cnt G⟩, ?_⟩
      have := hH.put hd (.v n)
      simp only [SV.v, Env.set_self] at this
      exact this
end
/-! ### what is left of an own slice -/
theorem own_cut0 {w : World} {base T len m : Nat} {xs : List Value} {v : Value} (h : w.ownsRow base T 1 v len xs) (hm : m ≤ len) : w.ownsRow base T 1 (cutV v 0 m) m (xs.take m) ∧ (cutV v 0 m).ownBlock = v.ownBlock := by
  obtain ⟨h1, h2⟩ := h
  rcases h2 with ⟨h3, h4⟩ | ⟨g, cap, cur, h3, h4, h5, h6, h7, h8, h9⟩
  · subst h3
    obtain rfl : m = 0 := by omega
    exact ⟨⟨by simp, .inl ⟨rfl, rfl⟩⟩, rfl⟩
  · subst h3
    have hv : cutV (.slice (some ⟨g, 0, none⟩) len cap) 0 m = .slice (some ⟨g, 0, none⟩) m cap := by
      show Value.slice (if cap = 0 then some ⟨g, 0, none⟩ else (some ⟨g, 0, none⟩ : Option Addr).map (·.add 0)) m (cap - 0) = _
      split <;> simp [Addr.add]
    rw [hv]
    refine ⟨⟨by rw [List.length_take]; omega, .inr ⟨g, cap, cur, rfl, h4, h5, by omega, h7, h8, ?_⟩⟩, rfl⟩
    rw [← h9, List.take_take, Nat.mul_one, Nat.mul_one, Nat.min_eq_left hm]
theorem ent_cut {t : List (Nat × SV)} {h : List (Nat × Option Res)} {i n m len : Nat} {T : TypeId} {k : IntKind} {b : Nat} {l : List (BitVec b)} (q : Nat) (hv : look t i = some (.sub n 0 m)) (hr : (St.mk t h).res n = some (.own n T 1 len (valsL k l))) (hm : m ≤ len) (hnq : Nat.beq n q = false) (hf : freshB ⟨t, h⟩ q = true) :
    Ents C ⟨t, h⟩ ⟨(i, .v q) :: t, (n, none) :: (q, some (.own q T 1 m (valsL k (l.take m)))) :: h⟩ := fun e a w hS => by
  have hok : w.ownsRow 0 T 1 (e n).v len (valsL k l) := hS.res n _ hr
  obtain ⟨h1, h2⟩ := own_cut0 hok hm
  rw [show (valsL k l).take m = valsL k (l.take m) by simp [valsL]] at h1
  have hne : n ≠ q := fun he => by subst he; simp at hnq
  have hH := hS.own (m := n) (n := q) hne (freshB_spec hf) (.inr ⟨_, _, _, _, hr, rfl⟩) ⟨rfl, rfl, rfl, Nat.le_refl _, fun _ _ _ => rfl⟩ h1 (fun b hb => .inl (h2 ▸ hb))
  refine ⟨_, hH.defers, hH.size, fun j v hj => ?_, hH.res, hH.mine, hH.sep, hH.frame⟩
  have hj2 : look ((i, SV.v q) :: t) j = some v := hj
  rw [look_cons] at hj2
  by_cases e0 : i = j
  · rw [if_pos e0] at hj2
    have hj3 : SV.v q = v := by simpa using hj2
    subst hj3
    subst e0
    show a.tmps[i]? = some ((e.set q ⟨0, 0, cutV (e n).v 0 m⟩) q).v
    rw [Env.set_self]
    exact hS.tmp i _ hv
  · rw [if_neg e0] at hj2
    exact hH.tmp j v hj2
/-! ### an array behind a slice that lay there -/
theorem op_s2aF {t T : TypeId} {x : Operand} {v : Value} {m len : Nat} {xs : List Value} (ho : o.op = .sliceToArrayPointer t x) (hg : o.guard = none) (hd : dstB o.dst C.nt = true) (hx : S.ev x = some (.c v)) (hf : RdV C.w0 1 v len xs) (hu' : tabLook undT t = some (.array m T)) (hm : m ≤ len) (h0 : 0 < len) : OpG C Try.prog ops o S ⟨opT x, [], dw o.dst (.c (ptrV v 0)), [], []⟩ := by
  obtain ⟨_, ad, c, rfl, hr⟩ := hf
  rcases hr with h3 | ⟨b, off, rfl, _⟩
  · omega
  refine op_one (v := .c (ptrV (.slice (some ⟨b, off, none⟩) len c) 0)) hg hd hx fun e ρ w h1 => ?_
  have h1' : ρ x = .slice (some ⟨b, off, none⟩) len c := h1
  have hu := tabAll_look undT_ok hu'
  have hlt : ¬ len < m := by omega
  simp [execOp, ho, h1', Instr.arrayAt, Sem.run_bind, run_underlying hu w, hlt, SV.c, ptrV]
end Go.Proofs.Ytgjlpnendljcaaa
