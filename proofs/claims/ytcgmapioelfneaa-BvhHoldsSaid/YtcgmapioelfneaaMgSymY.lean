/- A closure called; a capacity; a slice grown out of none; what is left of an own slice that is cut; an array behind a slice that lay there. No condition. Whole numbers that go round; the least and the greatest of three; a closure that hands back a value. No condition. Places and rays: in plain numbers; sums, products, within, May: walked. No condition. Rays and triangles: the document's sums, products, May; whether a corner lies too far off; where a ray meets a triangle: walked. No condition. Where a ray meets a triangle: the program's: walked. No condition. -/
import Derived.Test.YtcgmapioelfneaaSymX
import Derived.Test.YtcgmapioelfneaaMgSymK
import Derived.Lib.AppendZeros
namespace Go.Proofs.Ytcgmapioelfneaa
open Go.RowKit
set_option maxRecDepth 100000
set_option maxHeartbeats 1000000
variable {C : Ctx} {ops : Array Oper} {S : St} {o : Oper}
/-! ### a closure that holds nothing -/
section
variable {l : List Oper} {t : List (Nat × SV)} {h : List (Nat × Option Res)} {d t0 : Nat} {f j : FuncId} {xs : Array Operand} {ats : Array TypeId} {vs : List SV}
end
section
variable {dst : Option Tmp} {x y : Operand} {t T ty : TypeId} {pos : String} {after : Array Edge}
theorem op_capC {a : Option Addr} {n c : Nat} (hd : dstB dst C.nt = true) (hx : S.ev x = some (.c (.slice a n c))) (hu' : tabLook undT t = some (.slice T)) : OpG C Try.prog ops ⟨dst, .call { callee := .builtin .cap, args := #[x], argTypes := #[t] }, ty, pos, after, none⟩ S ⟨opT x, [], dw dst (.c (.int .i64 ((c : Nat) : Int))), [], []⟩ :=
  op_one (v := .c (.int .i64 ((c : Nat) : Int))) rfl hd hx fun e ρ w h1 => by
    have h1' : ρ x = .slice a n c := h1
    have hu := tabAll_look undT_ok hu'
    simp [execOp, resolve, invoke, builtin, Builtin.cap_, Sem.run_bind, Sem.run_pure, Result.andThen_ok, run_underlying hu, h1', goInt, SV.c]
theorem zero_cells (u : Value) (n : Nat) : (Builtin.zeroCells #[u] n).toList = List.replicate n u := by
  simp only [Builtin.zeroCells, Array.toList_map, Array.toList_range]
  apply List.ext_getElem (by simp)
  intro j h1 h2
  have h0 : j % 1 = 0 := Nat.mod_one j
  simp [h0]
/-- None, and so many zeros behind it. -/
theorem op_appendZ {tn : TypeId} {n cnt by_ : Nat} {k kn : IntKind} {m : Nat} (hd : dstB (some n) C.nt = true) (hx : S.ev x = some (.c (.slice none 0 0))) (hy : EvN S y cnt) (hu' : tabLook undT t = some (.slice T)) (hn' : tabLook undT tn = some (.int kn)) (hs' : tabLook sizT T = some 1) (hy' : tabLook bytT T = some by_) (hz' : tabLook zerT T = some #[.int k 0]) (h0 : 0 < cnt) (hmax : cnt * by_ ≤ 140737488355328 ∧ cnt ≤ 1099511627776) :
    OpG C Try.prog ops ⟨some n, .call { callee := .builtin .append, args := #[x, y], argTypes := #[t, tn] }, ty, pos, after, none⟩ S ⟨opT x ++ opT y, [], [(n, .v n)], [(n, some (.own n T 1 cnt (valsL k (List.replicate cnt (0#m)))))], [n]⟩ := by
  refine opG_mk rfl fun S' h1 h2 h3 e a w hS => ?_
  have hevx : a.eval x = .slice none 0 0 := hS.ev ((ev_like h1 fun _ h => List.mem_append_left _ h).trans hx)
  have hevy : a.eval y = .int .i64 ((cnt : Nat) : Int) := hS.ev ((ev_like h1 fun _ h => List.mem_append_right _ h).trans hy)
  have hu := tabAll_look undT_ok hu'
  have hn := tabAll_look undT_ok hn'
  have hs := tabAll_look sizT_ok hs'
  have hz := tabAll_look zerT_ok hz'
  have hby := tabAll_look bytT_ok hy'
  cases hb : (Try.prog.info? T) with
  | none => simp [hb] at hz
  | some i =>
    cases hc : i.zero with
    | none => simp [hb, hc] at hz
    | some zz =>
      have hzc : zz.cells = #[.int k 0] := by simpa [hb, hc] using hz
      have his : i.size = 1 := by simpa [hb] using hs
      have hib : i.bytes = by_ := by simpa [hb] using hby
      have hr := Lib.run_append_nil_zeros (P := Try.prog) w t tn ty T i zz .i64 kn hu hn hb hc cnt h0 (by omega) (by omega) (by rw [hib]; omega)
      have hG1 : cnt ≤ grownCap w cnt 0 T := grownCap_ge w _ _ _
      have hG2 := grownCap_le_maxLen w cnt 0 T (by unfold maxLen; omega)
      rw [hzc] at hr
      generalize grownCap w cnt 0 T = G at *
      have hown : (w.drew.alloc (.cells (Builtin.zeroCells #[Value.int k 0] cnt ++ Builtin.zeroCells #[Value.int k 0] (G - cnt)) T)).ownsRow w.heap.size T 1 (.slice (some ⟨w.heap.size, 0, none⟩) cnt G) cnt (valsL k (List.replicate cnt (0#m))) := by
        refine ⟨by rw [valsL_length, List.length_replicate, Nat.mul_one], .inr ⟨w.heap.size, G, Builtin.zeroCells #[Value.int k 0] cnt ++ Builtin.zeroCells #[Value.int k 0] (G - cnt), rfl, Nat.le_refl _, ?_, hG1, hG2, ?_, ?_⟩⟩
        · show (w.drew.heap.push _)[w.heap.size]? = _
          exact Array.getElem?_push_size
        · rw [Array.size_append, ← Array.length_toList, ← Array.length_toList, zero_cells, zero_cells, List.length_replicate, List.length_replicate, Nat.mul_one]
          exact Nat.add_sub_of_le hG1
        · rw [Array.toList_append, zero_cells, Nat.mul_one, List.take_append_of_le_length (by simp), List.take_of_length_le (by simp)]
          simp [valsL, bvi]
      have hrun : (execOp a.eval ⟨some n, .call { callee := .builtin .append, args := #[x, y], argTypes := #[t, tn] }, ty, pos, after, none⟩).run Try.prog w = .ok (.value (.slice (some ⟨w.heap.size, 0, none⟩) cnt G)) (w.drew.alloc (.cells (Builtin.zeroCells #[Value.int k 0] cnt ++ Builtin.zeroCells #[Value.int k 0] (G - cnt)) T)) := by
        simp only [execOp, resolve, invoke, builtin, Sem.run_bind, Sem.run_pure, Result.andThen_ok, List.map_toArray, List.map_cons, List.map_nil, hevx, hevy, hr]
      have hH := hS.ownNew (n := n) (h3 n (by simp)) (Below.alloc (Below.drew (Below.refl _ _)) (Nat.le_refl _) _) hown
      refine wp_value hrun ⟨e.set n ⟨0, 0, .slice (some ⟨w.heap.size, 0, none⟩) cnt G⟩, ?_⟩
      have := hH.put hd (.v n)
      simp only [SV.v, Env.set_self] at this
      exact this
end
/-! ### what is left of an own slice -/
theorem own_cut0 {w : World} {base T len m : Nat} {xs : List Value} {v : Value} (h : w.ownsRow base T 1 v len xs) (hm : m ≤ len) : w.ownsRow base T 1 (cutV v 0 m) m (xs.take m) ∧ (cutV v 0 m).ownBlock = v.ownBlock := by
  obtain ⟨h1, h2⟩ := h
  rcases h2 with ⟨h3, h4⟩ | ⟨g, cap, cur, h3, h4, h5, h6, h7, h8, h9⟩
  · subst h3
    obtain rfl : m = 0 := by omega
    exact ⟨⟨by simp, .inl ⟨rfl, rfl⟩⟩, rfl⟩
  · subst h3
    have hv : cutV (.slice (some ⟨g, 0, none⟩) len cap) 0 m = .slice (some ⟨g, 0, none⟩) m cap := by
      show Value.slice (if cap = 0 then some ⟨g, 0, none⟩ else (some ⟨g, 0, none⟩ : Option Addr).map (·.add 0)) m (cap - 0) = _
      split <;> simp [Addr.add]
    rw [hv]
    refine ⟨⟨by rw [List.length_take]; omega, .inr ⟨g, cap, cur, rfl, h4, h5, by omega, h7, h8, ?_⟩⟩, rfl⟩
    rw [← h9, List.take_take, Nat.mul_one, Nat.mul_one, Nat.min_eq_left hm]
theorem ent_cut {t : List (Nat × SV)} {h : List (Nat × Option Res)} {i n m len : Nat} {T : TypeId} {k : IntKind} {b : Nat} {l : List (BitVec b)} (q : Nat) (hv : look t i = some (.sub n 0 m)) (hr : (St.mk t h).res n = some (.own n T 1 len (valsL k l))) (hm : m ≤ len) (hnq : Nat.beq n q = false) (hf : freshB ⟨t, h⟩ q = true) :
    Ents C ⟨t, h⟩ ⟨(i, .v q) :: t, (n, none) :: (q, some (.own q T 1 m (valsL k (l.take m)))) :: h⟩ := fun e a w hS => by
  have hok : w.ownsRow 0 T 1 (e n).v len (valsL k l) := hS.res n _ hr
  obtain ⟨h1, h2⟩ := own_cut0 hok hm
  rw [show (valsL k l).take m = valsL k (l.take m) by simp [valsL]] at h1
  have hne : n ≠ q := fun he => by subst he; simp at hnq
  have hH := hS.own (m := n) (n := q) hne (freshB_spec hf) (.inr ⟨_, _, _, _, hr, rfl⟩) ⟨rfl, rfl, rfl, Nat.le_refl _, fun _ _ _ => rfl⟩ h1 (fun b hb => .inl (h2 ▸ hb))
  refine ⟨_, hH.defers, hH.size, fun j v hj => ?_, hH.res, hH.mine, hH.sep, hH.frame⟩
  have hj2 : look ((i, SV.v q) :: t) j = some v := hj
  rw [look_cons] at hj2
  by_cases e0 : i = j
  · rw [if_pos e0] at hj2
    have hj3 : SV.v q = v := by simpa using hj2
    subst hj3
    subst e0
    show a.tmps[i]? = some ((e.set q ⟨0, 0, cutV (e n).v 0 m⟩) q).v
    rw [Env.set_self]
    exact hS.tmp i _ hv
  · rw [if_neg e0] at hj2
    exact hH.tmp j v hj2
/-! ### an array behind a slice that lay there -/
end Go.Proofs.Ytcgmapioelfneaa
namespace Go.Proofs.Ytcgmapioelfneaa
open Go.RowKit
set_option maxRecDepth 100000
def aW (a b : Int) : Int := IntKind.i64.wrap (a + b)
def sW (a b : Int) : Int := IntKind.i64.wrap (a - b)
def mW (a b : Int) : Int := IntKind.i64.wrap (a * b)
def nW (a : Int) : Int := IntKind.i64.wrap (0 - a)
def max3 (a b c : Int) : Int := max (max a b) c
def min3 (a b c : Int) : Int := min (min a b) c
variable {C : Ctx} {ops : Array Oper} {S : St} {o : Oper}
section
variable {x y : Operand} {ty yt : TypeId} {a b : Int}
theorem op_addW (ho : o.op = .binOp .add ty x y yt) (hg : o.guard = none) (hd : dstB o.dst C.nt = true) (hx : EvI S x a) (hy : EvI S y b) : OpG C Try.prog ops o S ⟨opT x ++ opT y, [], dw o.dst (.c (.int .i64 (aW a b))), [], []⟩ :=
  op_int2 ho hg hd hx hy fun w => by rw [run_arith.1]; rfl
theorem op_subW (ho : o.op = .binOp .sub ty x y yt) (hg : o.guard = none) (hd : dstB o.dst C.nt = true) (hx : EvI S x a) (hy : EvI S y b) : OpG C Try.prog ops o S ⟨opT x ++ opT y, [], dw o.dst (.c (.int .i64 (sW a b))), [], []⟩ :=
  op_int2 ho hg hd hx hy fun w => by rw [run_arith.2.1]; rfl
theorem op_mulW (ho : o.op = .binOp .mul ty x y yt) (hg : o.guard = none) (hd : dstB o.dst C.nt = true) (hx : EvI S x a) (hy : EvI S y b) : OpG C Try.prog ops o S ⟨opT x ++ opT y, [], dw o.dst (.c (.int .i64 (mW a b))), [], []⟩ :=
  op_int2 ho hg hd hx hy fun w => by rw [run_arith.2.2]; rfl
end
section
variable {dst : Option Tmp} {x y z : Operand} {ats : Array TypeId} {ty : TypeId} {pos : String} {after : Array Edge} {a b c : Int}
theorem op_max3I (hd : dstB dst C.nt = true) (hx : EvI S x a) (hy : EvI S y b) (hz : EvI S z c) : OpG C Try.prog ops ⟨dst, .call { callee := .builtin .max, args := #[x, y, z], argTypes := ats }, ty, pos, after, none⟩ S ⟨[x, y, z].flatMap opT, [], dw dst (.c (.int .i64 (max3 a b c))), [], []⟩ := by
  have := op_value (C := C) (P := Try.prog) (ops := ops) (S := S) (o := ⟨dst, .call { callee := .builtin .max, args := #[x, y, z], argTypes := ats }, ty, pos, after, none⟩) rfl hd [x, y, z] [] (.c (.int .i64 (max3 a b c))) fun S' e aa w hS h1 h2 => by
    have e1 : aa.eval x = .int .i64 a := hS.ev ((h1 x (by simp)).trans hx)
    have e2 : aa.eval y = .int .i64 b := hS.ev ((h1 y (by simp)).trans hy)
    have e3 : aa.eval z = .int .i64 c := hS.ev ((h1 z (by simp)).trans hz)
    have hm : (if (if a < b then b else a) < c then c else if a < b then b else a) = max3 a b c := by unfold max3; omega
    simp [execOp, resolve, invoke, builtin, e1, e2, e3, Builtin.max_, Builtin.max2, hm, SV.c]
  simpa using this
theorem op_min3I (hd : dstB dst C.nt = true) (hx : EvI S x a) (hy : EvI S y b) (hz : EvI S z c) : OpG C Try.prog ops ⟨dst, .call { callee := .builtin .min, args := #[x, y, z], argTypes := ats }, ty, pos, after, none⟩ S ⟨[x, y, z].flatMap opT, [], dw dst (.c (.int .i64 (min3 a b c))), [], []⟩ := by
  have := op_value (C := C) (P := Try.prog) (ops := ops) (S := S) (o := ⟨dst, .call { callee := .builtin .min, args := #[x, y, z], argTypes := ats }, ty, pos, after, none⟩) rfl hd [x, y, z] [] (.c (.int .i64 (min3 a b c))) fun S' e aa w hS h1 h2 => by
    have e1 : aa.eval x = .int .i64 a := hS.ev ((h1 x (by simp)).trans hx)
    have e2 : aa.eval y = .int .i64 b := hS.ev ((h1 y (by simp)).trans hy)
    have e3 : aa.eval z = .int .i64 c := hS.ev ((h1 z (by simp)).trans hz)
    have hm : (if c < (if b < a then b else a) then c else if b < a then b else a) = min3 a b c := by unfold min3; omega
    simp [execOp, resolve, invoke, builtin, e1, e2, e3, Builtin.min_, Builtin.min2, hm, SV.c]
  simpa using this
end
/-! ### a closure that hands back a value -/
theorem op_callMV {t0 f : Nat} {xs : Array Operand} {ats : Array TypeId} {vs : List SV} {rb : List Nat} {v : Value} {j : FuncId} (ho : o.op = .call { callee := .value (.tmp t0), args := xs, argTypes := ats }) (hcal : S.ev (.tmp t0) = some (.c (.func (.func f) #[] #[]))) (hg : o.guard = none) (hd : dstB o.dst C.nt = true) (hxs : EvS S xs.toList vs) (hc' : tabLook calT f = some j) (hcon : CallM C S rb j vs v) :
    OpG C Try.prog ops o S ⟨t0 :: xs.toList.flatMap opT, rb, dw o.dst (.c v), [], []⟩ := by
  refine opG_mk hg fun S' h1 h2 _ e a w hS => ?_
  have hev : xs.toList.map S'.ev = vs.map some := by
    rw [← show xs.toList.map S.ev = vs.map some from hxs]
    exact List.map_congr_left fun x hx => ev_like h1 fun i hi => List.mem_cons_of_mem _ (List.mem_flatMap.2 ⟨x, hx, hi⟩)
  have hargs : xs.map a.eval = (vs.map (·.den e)).toArray := by
    rw [← evs_all hS _ _ hev, ← Array.toList_map, Array.toArray_toList]
  have hfn : a.eval (.tmp t0) = .func (.func f) #[] #[] := hS.ev ((ev_like h1 fun i hi => by simp [opT] at hi; subst hi; exact List.mem_cons_self).trans hcal)
  have hcall := tabAll_look calT_ok hc'
  have hop : (execOp a.eval o).run Try.prog w = .ok (.enter j (vs.map (·.den e)).toArray) w := by
    simp only [execOp, ho, resolve, hfn, Deferred.ofValue, Sem.run_bind, Sem.run_pure, Result.andThen_ok, invoke, Array.empty_append, Array.append_empty, hargs]
    exact hcall _ w
  unfold Oper.wp
  rw [hop]
  refine Calls.mono (hcon S' e a w hS h2) ?_
  rintro r w' ⟨rfl, hb⟩
  exact ⟨e, (hS.world hb).put hd (.c v)⟩
section
variable {l : List Oper} {t : List (Nat × SV)} {h : List (Nat × Option Res)} {d t0 : Nat} {f j : FuncId} {xs : Array Operand} {ats : Array TypeId} {vs : List SV}
theorem walk1_callMV {K : St → Prop} (ho : o.op = .call { callee := .value (.tmp t0), args := xs, argTypes := ats }) (hcal : (St.mk t h).ev (.tmp t0) = some (.c (.func (.func f) #[] #[]))) (hdn : o.dst = some d) (hg : o.guard = none) (hd : dstB o.dst C.nt = true) (hxs : EvS ⟨t, h⟩ xs.toList vs) (hc' : tabLook calT f = some j)
    (hK : ∃ rb v, CallM C ⟨t, h⟩ rb j vs v ∧ Walk1 C Try.prog ops l ⟨(d, .c v) :: t, h⟩ K) : Walk1 C Try.prog ops (o :: l) ⟨t, h⟩ K := by
  obtain ⟨rb, v, h1, h2⟩ := hK
  have := op_callMV (C := C) (ops := ops) ho hcal hg hd hxs hc' h1
  rw [hdn] at this
  exact walk1_t this h2
end
end Go.Proofs.Ytcgmapioelfneaa
namespace Go.Proofs.Ytcgmapioelfneaa
open Go.RowKit
set_option maxRecDepth 100000
set_option maxHeartbeats 1000000
theorem op_build0 {C : Ctx} {ops : Array Oper} {S : St} {o : Oper} {ty : TypeId} {parts : Array (Nat × Operand)} {fs : Array Field} {Z : Array Value} (ho : o.op = .build ty parts) (hp0 : parts = #[]) (hg : o.guard = none) (hd : dstB o.dst C.nt = true) (hu' : tabLook undT ty = some (.struct fs)) (hz' : tabLook zerT ty = some Z) (hss : (fs.all fun f => (tabLook sizT f.type).isSome) = true := by kernel_rfl) :
    OpG C Try.prog ops o S ⟨[], [], dw o.dst (.c (.agg Z)), [], []⟩ := by
  subst hp0
  refine op_value hg hd [] [] (.c (.agg Z)) fun S' e a w hS h1 _ => ?_
  have hu := tabAll_look undT_ok hu'
  have hz := tabAll_look zerT_ok hz'
  obtain ⟨zv, hz3, hzc⟩ : ∃ zv, (zeroValue ty).run Try.prog w = .ok zv w ∧ zv.cells = Z := by
    cases hb : (Try.prog.info? ty) with
    | none => simp [hb] at hz
    | some i =>
      cases hc : i.zero with
      | none => simp [hb, hc] at hz
      | some zz => exact ⟨zz, by simp [zeroValue, typeInfo, hb, hc], by simpa [hb, hc] using hz⟩
  have hall : ∀ f ∈ fs.toList, ∃ sz, tabLook sizT f.type = some sz := fun f hf => by
    have := Array.all_eq_true_iff_forall_mem.1 hss f (by simpa using hf)
    exact Option.isSome_iff_exists.1 this
  have hmap : ∀ l : List Field, (∀ f ∈ l, ∃ sz, tabLook sizT f.type = some sz) → (l.mapM fun (f : Field) => do pure (f.offset, ← sizeOf f.type)).run Try.prog w = .ok (l.map fun f => (f.offset, (tabLook sizT f.type).getD 0)) w := by
    intro l
    induction l with
    | nil => intro _; rfl
    | cons f l ih =>
      intro h
      obtain ⟨sz, hsz⟩ := h f (by simp)
      simp only [List.mapM_cons, Sem.run_bind, run_sizeT hsz w, Result.andThen_ok, Sem.run_pure, ih fun g hg => h g (by simp [hg]), List.map_cons, hsz, Option.getD_some]
  have hmapA : (fs.mapM fun (f : Field) => do pure (f.offset, ← sizeOf f.type)).run Try.prog w = .ok (fs.map fun f => (f.offset, (tabLook sizT f.type).getD 0)) w := by
    rw [Array.mapM_eq_mapM_toList]
    have e1 : (fs.toList.map fun f => (f.offset, (tabLook sizT f.type).getD 0)).toArray = fs.map fun f => (f.offset, (tabLook sizT f.type).getD 0) := by
      apply Array.ext'; simp
    simp only [map_eq_pure_bind, Sem.run_bind, hmap fs.toList hall, Result.andThen_ok, Sem.run_pure, e1]
  have hfill : ∀ pl, Instr.fill pl Z [] = some Z := fun _ => rfl
  simp only [execOp, ho, Instr.build, Sem.run_bind, hz3, Result.andThen_ok, run_underlying hu w, hmapA, hzc, List.map_toArray, List.map_nil, hfill, Sem.run_pure]
  rfl
/-- Handed back: a row of cells, and a value. -/
theorem res_cellT {C : Ctx} {S : St} {fn : Func} {t1 t2 : Tmp} {ty1 : TypeId} {n1 m1 : Nat} {T1 : TypeId} {A1 : Array Value} {u : Value} {wr1 : Bool} {d1 : TypeDesc} (h : fn.results = #[.cell t1 ty1, .tmp t2]) (hv1 : S.tmp t1 = some (.p n1 0)) (hr1 : S.res n1 = some (.blk n1 T1 (.c A1) wr1)) (hv2 : S.tmp t2 = some (.c u))
    (hu1 : tabLook undT ty1 = some d1) (hda1 : d1.isRow = true) (hi1 : tabLook sizT ty1 = some m1) (hm1 : A1.size = m1) :
    ∀ e a w, Holds C S e a w → (results fn a.tmps).run Try.prog w = .ok ((SV.c (.tuple #[.agg A1, u])).den e) w := fun e a w hS => by
  have hu1 := tabAll_look undT_ok hu1
  have hi1 := tabAll_look sizT_ok hi1
  obtain ⟨fr1, hb1, _⟩ := res_blk hS hr1
  have hp1 : a.tmps.getD t1 undef = .pointer (some ⟨(e n1).b, 0, none⟩) := getD_of (hS.tmp t1 _ hv1)
  have hp2 : a.tmps.getD t2 undef = u := getD_of (hS.tmp t2 _ hv2)
  have hp1' : a.tmps[t1]?.getD undef = .pointer (some ⟨(e n1).b, 0, none⟩) := by simpa using hp1
  have hp2' : a.tmps[t2]?.getD undef = u := by simpa using hp2
  have k1 := run_loadVar_row (P := Try.prog) w (e n1).b T1 ty1 A1 fr1 d1 hb1 hu1 (by cases d1 <;> simp_all) (by rw [hi1, hm1])
  simp [results, h, hp1', hp2', asAddr, k1]
  rfl
/-! ### structs of whole numbers, held against each other -/
def intsC (l : List Int) : Array Value := (l.map fun z => Value.int .i64 z).toArray
/-! ### places -/
structure P3 where
  x : Int
  y : Int
  z : Int
def P3.l (p : P3) : List Int := [p.x, p.y, p.z]
def P3.c (p : P3) : Array Value := #[.int .i64 p.x, .int .i64 p.y, .int .i64 p.z]
theorem P3.cells (p : P3) : p.c = intsC p.l := rfl
def subP (a b : P3) : P3 := ⟨sW a.x b.x, sW a.y b.y, sW a.z b.z⟩
def crossP (a b : P3) : P3 := ⟨sW (mW a.y b.z) (mW a.z b.y), sW (mW a.z b.x) (mW a.x b.z), sW (mW a.x b.y) (mW a.y b.x)⟩
def dotP (a b : P3) : Int := aW (aW (mW a.x b.x) (mW a.y b.y)) (mW a.z b.z)
def inP (p : P3) (m : Int) : Bool := decide (max3 p.x p.y p.z ≤ m) && decide (-m ≤ min3 p.x p.y p.z)
def mayP (o d : P3) : Bool := inP o 65536 && (inP d 131072 && !(d.l == [0, 0, 0]))
attribute [local irreducible] Calls Walk1 WalkTo Tri EndA
end Go.Proofs.Ytcgmapioelfneaa
namespace Go.Proofs.Ytcgmapioelfneaa
open Go.RowKit
set_option maxRecDepth 100000
set_option maxHeartbeats 1000000
def ptsC (l : List P3) : List Value := l.flatMap fun p => p.c.toList
def outF (p : P3) : Bool := !(inP p 65536)
attribute [local irreducible] Calls Walk1 WalkTo Tri EndA
/-! ### the document's -/
/-! ### where a ray meets a triangle -/
structure M4 where
  num : Int
  det : Int
  u : Int
  v : Int
def M4.c (m : M4) : Array Value := #[.int .i64 m.num, .int .i64 m.det, .int .i64 m.u, .int .i64 m.v]
def zM : M4 := ⟨0, 0, 0, 0⟩
def rawM (o d p0 p1 p2 : P3) : M4 :=
  ⟨dotP (subP p2 p0) (crossP (subP o p0) (subP p1 p0)), dotP (subP p1 p0) (crossP d (subP p2 p0)), dotP (subP o p0) (crossP d (subP p2 p0)), dotP d (crossP (subP o p0) (subP p1 p0))⟩
def turnM (m : M4) : M4 := if m.det < 0 then ⟨nW m.num, nW m.det, nW m.u, nW m.v⟩ else m
def badM (m : M4) : Prop := m.det = 0 ∨ m.u < 0 ∨ m.v < 0 ∨ m.det < aW m.u m.v ∨ m.num ≤ 0
instance (m : M4) : Decidable (badM m) := by unfold badM; exact inferInstance
def endM (m : M4) : M4 × Bool := if badM m then (zM, false) else (m, true)
def hitM (o d p0 p1 p2 : P3) : M4 × Bool := if (mayP o d && !([p0, p1, p2].any outF)) = true then endM (turnM (rawM o d p0 p1 p2)) else (zM, false)
end Go.Proofs.Ytcgmapioelfneaa
namespace Go.Proofs.Ytcgmapioelfneaa
open Go.RowKit
set_option maxRecDepth 100000
set_option maxHeartbeats 2000000
def P9 (p0 p1 p2 : P3) : Array Value := #[.int .i64 p0.x, .int .i64 p0.y, .int .i64 p0.z, .int .i64 p1.x, .int .i64 p1.y, .int .i64 p1.z, .int .i64 p2.x, .int .i64 p2.y, .int .i64 p2.z]
attribute [local irreducible] Calls Walk1 WalkTo Tri EndA
end Go.Proofs.Ytcgmapioelfneaa
