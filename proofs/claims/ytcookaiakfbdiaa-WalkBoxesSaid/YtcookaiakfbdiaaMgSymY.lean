/- A closure called; a capacity; a slice grown out of none; what is left of an own slice that is cut; an array behind a slice that lay there. No condition. Whole numbers that go round; the least and the greatest of three; a closure that hands back a value. No condition. Places and rays: in plain numbers; sums, products, within, May: walked. No condition. Rays and triangles: the document's sums, products, May; whether a corner lies too far off; where a ray meets a triangle: walked. No condition. -/
import Derived.Test.YtcookaiakfbdiaaSymX
import Derived.Test.YtcookaiakfbdiaaMgSymK
import Derived.Lib.AppendZeros
namespace Go.Proofs.Ytcookaiakfbdiaa
open Go.RowKit
set_option maxRecDepth 100000
set_option maxHeartbeats 1000000
variable {C : Ctx} {ops : Array Oper} {S : St} {o : Oper}
/-! ### a closure that holds nothing -/
section
variable {l : List Oper} {t : List (Nat × SV)} {h : List (Nat × Option Res)} {d t0 : Nat} {f j : FuncId} {xs : Array Operand} {ats : Array TypeId} {vs : List SV}
end
section
variable {dst : Option Tmp} {x y : Operand} {t T ty : TypeId} {pos : String} {after : Array Edge}
end
/-! ### what is left of an own slice -/
/-! ### an array behind a slice that lay there -/
end Go.Proofs.Ytcookaiakfbdiaa
namespace Go.Proofs.Ytcookaiakfbdiaa
open Go.RowKit
set_option maxRecDepth 100000
def aW (a b : Int) : Int := IntKind.i64.wrap (a + b)
def sW (a b : Int) : Int := IntKind.i64.wrap (a - b)
def mW (a b : Int) : Int := IntKind.i64.wrap (a * b)
def nW (a : Int) : Int := IntKind.i64.wrap (0 - a)
def max3 (a b c : Int) : Int := max (max a b) c
def min3 (a b c : Int) : Int := min (min a b) c
variable {C : Ctx} {ops : Array Oper} {S : St} {o : Oper}
section
variable {x y : Operand} {ty yt : TypeId} {a b : Int}
theorem op_addW (ho : o.op = .binOp .add ty x y yt) (hg : o.guard = none) (hd : dstB o.dst C.nt = true) (hx : EvI S x a) (hy : EvI S y b) : OpG C Try.prog ops o S ⟨opT x ++ opT y, [], dw o.dst (.c (.int .i64 (aW a b))), [], []⟩ :=
  op_int2 ho hg hd hx hy fun w => by rw [run_arith.1]; rfl
theorem op_subW (ho : o.op = .binOp .sub ty x y yt) (hg : o.guard = none) (hd : dstB o.dst C.nt = true) (hx : EvI S x a) (hy : EvI S y b) : OpG C Try.prog ops o S ⟨opT x ++ opT y, [], dw o.dst (.c (.int .i64 (sW a b))), [], []⟩ :=
  op_int2 ho hg hd hx hy fun w => by rw [run_arith.2.1]; rfl
theorem op_mulW (ho : o.op = .binOp .mul ty x y yt) (hg : o.guard = none) (hd : dstB o.dst C.nt = true) (hx : EvI S x a) (hy : EvI S y b) : OpG C Try.prog ops o S ⟨opT x ++ opT y, [], dw o.dst (.c (.int .i64 (mW a b))), [], []⟩ :=
  op_int2 ho hg hd hx hy fun w => by rw [run_arith.2.2]; rfl
theorem op_negW (ho : o.op = .unOp .neg ty x) (hg : o.guard = none) (hd : dstB o.dst C.nt = true) (hx : EvI S x a) : OpG C Try.prog ops o S ⟨opT x, [], dw o.dst (.c (.int .i64 (nW a))), [], []⟩ := by
  refine op_one (v := .c (.int .i64 (nW a))) hg hd hx fun e ρ w h1 => ?_
  have h1' : ρ x = .int .i64 a := h1
  simp only [execOp, ho, h1', Sem.run_bind, Op.unary, Op.intArith, Result.andThen_ok, Sem.run_pure]
  rfl
end
section
variable {dst : Option Tmp} {x y z : Operand} {ats : Array TypeId} {ty : TypeId} {pos : String} {after : Array Edge} {a b c : Int}
theorem op_max3I (hd : dstB dst C.nt = true) (hx : EvI S x a) (hy : EvI S y b) (hz : EvI S z c) : OpG C Try.prog ops ⟨dst, .call { callee := .builtin .max, args := #[x, y, z], argTypes := ats }, ty, pos, after, none⟩ S ⟨[x, y, z].flatMap opT, [], dw dst (.c (.int .i64 (max3 a b c))), [], []⟩ := by
  have := op_value (C := C) (P := Try.prog) (ops := ops) (S := S) (o := ⟨dst, .call { callee := .builtin .max, args := #[x, y, z], argTypes := ats }, ty, pos, after, none⟩) rfl hd [x, y, z] [] (.c (.int .i64 (max3 a b c))) fun S' e aa w hS h1 h2 => by
    have e1 : aa.eval x = .int .i64 a := hS.ev ((h1 x (by simp)).trans hx)
    have e2 : aa.eval y = .int .i64 b := hS.ev ((h1 y (by simp)).trans hy)
    have e3 : aa.eval z = .int .i64 c := hS.ev ((h1 z (by simp)).trans hz)
    have hm : (if (if a < b then b else a) < c then c else if a < b then b else a) = max3 a b c := by unfold max3; omega
    simp [execOp, resolve, invoke, builtin, e1, e2, e3, Builtin.max_, Builtin.max2, hm, SV.c]
  simpa using this
theorem op_min3I (hd : dstB dst C.nt = true) (hx : EvI S x a) (hy : EvI S y b) (hz : EvI S z c) : OpG C Try.prog ops ⟨dst, .call { callee := .builtin .min, args := #[x, y, z], argTypes := ats }, ty, pos, after, none⟩ S ⟨[x, y, z].flatMap opT, [], dw dst (.c (.int .i64 (min3 a b c))), [], []⟩ := by
  have := op_value (C := C) (P := Try.prog) (ops := ops) (S := S) (o := ⟨dst, .call { callee := .builtin .min, args := #[x, y, z], argTypes := ats }, ty, pos, after, none⟩) rfl hd [x, y, z] [] (.c (.int .i64 (min3 a b c))) fun S' e aa w hS h1 h2 => by
    have e1 : aa.eval x = .int .i64 a := hS.ev ((h1 x (by simp)).trans hx)
    have e2 : aa.eval y = .int .i64 b := hS.ev ((h1 y (by simp)).trans hy)
    have e3 : aa.eval z = .int .i64 c := hS.ev ((h1 z (by simp)).trans hz)
    have hm : (if c < (if b < a then b else a) then c else if b < a then b else a) = min3 a b c := by unfold min3; omega
    simp [execOp, resolve, invoke, builtin, e1, e2, e3, Builtin.min_, Builtin.min2, hm, SV.c]
  simpa using this
end
/-! ### a closure that hands back a value -/
theorem op_callMV {t0 f : Nat} {xs : Array Operand} {ats : Array TypeId} {vs : List SV} {rb : List Nat} {v : Value} {j : FuncId} (ho : o.op = .call { callee := .value (.tmp t0), args := xs, argTypes := ats }) (hcal : S.ev (.tmp t0) = some (.c (.func (.func f) #[] #[]))) (hg : o.guard = none) (hd : dstB o.dst C.nt = true) (hxs : EvS S xs.toList vs) (hc' : tabLook calT f = some j) (hcon : CallM C S rb j vs v) :
    OpG C Try.prog ops o S ⟨t0 :: xs.toList.flatMap opT, rb, dw o.dst (.c v), [], []⟩ := by
  refine opG_mk hg fun S' h1 h2 _ e a w hS => ?_
  have hev : xs.toList.map S'.ev = vs.map some := by
    rw [← show xs.toList.map S.ev = vs.map some from hxs]
    exact List.map_congr_left fun x hx => ev_like h1 fun i hi => List.mem_cons_of_mem _ (List.mem_flatMap.2 ⟨x, hx, hi⟩)
  have hargs : xs.map a.eval = (vs.map (·.den e)).toArray := by
    rw [← evs_all hS _ _ hev, ← Array.toList_map, Array.toArray_toList]
  have hfn : a.eval (.tmp t0) = .func (.func f) #[] #[] := hS.ev ((ev_like h1 fun i hi => by simp [opT] at hi; subst hi; exact List.mem_cons_self).trans hcal)
  have hcall := tabAll_look calT_ok hc'
  have hop : (execOp a.eval o).run Try.prog w = .ok (.enter j (vs.map (·.den e)).toArray) w := by
    simp only [execOp, ho, resolve, hfn, Deferred.ofValue, Sem.run_bind, Sem.run_pure, Result.andThen_ok, invoke, Array.empty_append, Array.append_empty, hargs]
    exact hcall _ w
  unfold Oper.wp
  rw [hop]
  refine Calls.mono (hcon S' e a w hS h2) ?_
  rintro r w' ⟨rfl, hb⟩
  exact ⟨e, (hS.world hb).put hd (.c v)⟩
section
variable {l : List Oper} {t : List (Nat × SV)} {h : List (Nat × Option Res)} {d t0 : Nat} {f j : FuncId} {xs : Array Operand} {ats : Array TypeId} {vs : List SV}
theorem walk1_callMV {K : St → Prop} (ho : o.op = .call { callee := .value (.tmp t0), args := xs, argTypes := ats }) (hcal : (St.mk t h).ev (.tmp t0) = some (.c (.func (.func f) #[] #[]))) (hdn : o.dst = some d) (hg : o.guard = none) (hd : dstB o.dst C.nt = true) (hxs : EvS ⟨t, h⟩ xs.toList vs) (hc' : tabLook calT f = some j)
    (hK : ∃ rb v, CallM C ⟨t, h⟩ rb j vs v ∧ Walk1 C Try.prog ops l ⟨(d, .c v) :: t, h⟩ K) : Walk1 C Try.prog ops (o :: l) ⟨t, h⟩ K := by
  obtain ⟨rb, v, h1, h2⟩ := hK
  have := op_callMV (C := C) (ops := ops) ho hcal hg hd hxs hc' h1
  rw [hdn] at this
  exact walk1_t this h2
end
end Go.Proofs.Ytcookaiakfbdiaa
namespace Go.Proofs.Ytcookaiakfbdiaa
open Go.RowKit
set_option maxRecDepth 100000
set_option maxHeartbeats 1000000
theorem op_build0 {C : Ctx} {ops : Array Oper} {S : St} {o : Oper} {ty : TypeId} {parts : Array (Nat × Operand)} {fs : Array Field} {Z : Array Value} (ho : o.op = .build ty parts) (hp0 : parts = #[]) (hg : o.guard = none) (hd : dstB o.dst C.nt = true) (hu' : tabLook undT ty = some (.struct fs)) (hz' : tabLook zerT ty = some Z) (hss : (fs.all fun f => (tabLook sizT f.type).isSome) = true := by kernel_rfl) :
    OpG C Try.prog ops o S ⟨[], [], dw o.dst (.c (.agg Z)), [], []⟩ := by
  subst hp0
  refine op_value hg hd [] [] (.c (.agg Z)) fun S' e a w hS h1 _ => ?_
  have hu := tabAll_look undT_ok hu'
  have hz := tabAll_look zerT_ok hz'
  obtain ⟨zv, hz3, hzc⟩ : ∃ zv, (zeroValue ty).run Try.prog w = .ok zv w ∧ zv.cells = Z := by
    cases hb : (Try.prog.info? ty) with
    | none => simp [hb] at hz
    | some i =>
      cases hc : i.zero with
      | none => simp [hb, hc] at hz
      | some zz => exact ⟨zz, by simp [zeroValue, typeInfo, hb, hc], by simpa [hb, hc] using hz⟩
  have hall : ∀ f ∈ fs.toList, ∃ sz, tabLook sizT f.type = some sz := fun f hf => by
    have := Array.all_eq_true_iff_forall_mem.1 hss f (by simpa using hf)
    exact Option.isSome_iff_exists.1 this
  have hmap : ∀ l : List Field, (∀ f ∈ l, ∃ sz, tabLook sizT f.type = some sz) → (l.mapM fun (f : Field) => do pure (f.offset, ← sizeOf f.type)).run Try.prog w = .ok (l.map fun f => (f.offset, (tabLook sizT f.type).getD 0)) w := by
    intro l
    induction l with
    | nil => intro _; rfl
    | cons f l ih =>
      intro h
      obtain ⟨sz, hsz⟩ := h f (by simp)
      simp only [List.mapM_cons, Sem.run_bind, run_sizeT hsz w, Result.andThen_ok, Sem.run_pure, ih fun g hg => h g (by simp [hg]), List.map_cons, hsz, Option.getD_some]
  have hmapA : (fs.mapM fun (f : Field) => do pure (f.offset, ← sizeOf f.type)).run Try.prog w = .ok (fs.map fun f => (f.offset, (tabLook sizT f.type).getD 0)) w := by
    rw [Array.mapM_eq_mapM_toList]
    have e1 : (fs.toList.map fun f => (f.offset, (tabLook sizT f.type).getD 0)).toArray = fs.map fun f => (f.offset, (tabLook sizT f.type).getD 0) := by
      apply Array.ext'; simp
    simp only [map_eq_pure_bind, Sem.run_bind, hmap fs.toList hall, Result.andThen_ok, Sem.run_pure, e1]
  have hfill : ∀ pl, Instr.fill pl Z [] = some Z := fun _ => rfl
  simp only [execOp, ho, Instr.build, Sem.run_bind, hz3, Result.andThen_ok, run_underlying hu w, hmapA, hzc, List.map_toArray, List.map_nil, hfill, Sem.run_pure]
  rfl
theorem op_loadsK {C : Ctx} {ops : Array Oper} {S : St} {o : Oper} {ty : TypeId} {x : Operand} {n off : Nat} {T : TypeId} {a a' : Array Value} {wr : Bool} {d : TypeDesc} {m : Nat} (ho : o.op = .load ty x) (hg : o.guard = none) (hd : dstB o.dst C.nt = true) (hx : S.ev x = some (.p n off)) (hr : S.res n = some (.blk n T (.c a) wr))
    (hu' : tabLook undT ty = some d) (hda : d.isRow = true) (hi' : tabLook sizT ty = some m) (hs : Sub (.c a) off m (.c a')) : OpG C Try.prog ops o S ⟨opT x, n :: (SV.c (.agg a')).sup, dw o.dst (.c (.agg a')), [], []⟩ :=
  op_loadsM ho hg hd hx hr hu' hda hi' hs (fun _ => rfl)
/-- Handed back: a row of cells, and a value. -/
theorem res_cellT {C : Ctx} {S : St} {fn : Func} {t1 t2 : Tmp} {ty1 : TypeId} {n1 m1 : Nat} {T1 : TypeId} {A1 : Array Value} {u : Value} {wr1 : Bool} {d1 : TypeDesc} (h : fn.results = #[.cell t1 ty1, .tmp t2]) (hv1 : S.tmp t1 = some (.p n1 0)) (hr1 : S.res n1 = some (.blk n1 T1 (.c A1) wr1)) (hv2 : S.tmp t2 = some (.c u))
    (hu1 : tabLook undT ty1 = some d1) (hda1 : d1.isRow = true) (hi1 : tabLook sizT ty1 = some m1) (hm1 : A1.size = m1) :
    ∀ e a w, Holds C S e a w → (results fn a.tmps).run Try.prog w = .ok ((SV.c (.tuple #[.agg A1, u])).den e) w := fun e a w hS => by
  have hu1 := tabAll_look undT_ok hu1
  have hi1 := tabAll_look sizT_ok hi1
  obtain ⟨fr1, hb1, _⟩ := res_blk hS hr1
  have hp1 : a.tmps.getD t1 undef = .pointer (some ⟨(e n1).b, 0, none⟩) := getD_of (hS.tmp t1 _ hv1)
  have hp2 : a.tmps.getD t2 undef = u := getD_of (hS.tmp t2 _ hv2)
  have hp1' : a.tmps[t1]?.getD undef = .pointer (some ⟨(e n1).b, 0, none⟩) := by simpa using hp1
  have hp2' : a.tmps[t2]?.getD undef = u := by simpa using hp2
  have k1 := run_loadVar_row (P := Try.prog) w (e n1).b T1 ty1 A1 fr1 d1 hb1 hu1 (by cases d1 <;> simp_all) (by rw [hi1, hm1])
  simp [results, h, hp1', hp2', asAddr, k1]
  rfl
/-! ### structs of whole numbers, held against each other -/
def intsC (l : List Int) : Array Value := (l.map fun z => Value.int .i64 z).toArray
theorem run_eqInt {P : Program} {w : World} {d : Nat} {t : TypeId} {a b : Int} (ht : P.underlying t = some (.int .i64)) : (Op.equalIn (d + 1) t (.int .i64 a) (.int .i64 b)).run P w = .ok (a == b) w := by
  simp [Op.equalIn, run_underlying ht]
theorem eqFields_ints {P : Program} {w : World} (d : Nat) (a b : List Int) : ∀ (fs : List Field) (off : Nat), (∀ (i : Nat) f, fs[i]? = some f → f.name ≠ "_" ∧ f.offset = off + i ∧ P.underlying f.type = some (.int .i64)) → a.length = off + fs.length → b.length = off + fs.length → (Op.eqFields (d + 1) (intsC a) (intsC b) fs).run P w = .ok (a.drop off == b.drop off) w
  | [], off, _, ha, hb => by
    rw [List.drop_of_length_le (by simp at ha; omega), List.drop_of_length_le (by simp at hb; omega)]
    simp [Op.eqFields]
  | f :: fs, off, h, ha, hb => by
    simp only [List.length_cons] at ha hb
    obtain ⟨h1, h2, h3⟩ := h 0 f rfl
    have ih := eqFields_ints (w := w) d a b fs (off + 1) (fun i g hg => by
      obtain ⟨g1, g2, g3⟩ := h (i + 1) g (by simpa using hg)
      exact ⟨g1, by omega, g3⟩) (by omega) (by omega)
    have hxa : (intsC a)[off]? = some (.int .i64 (a[off]'(by omega))) := by simp [intsC, List.getElem?_eq_getElem (show off < a.length by omega)]
    have hxb : (intsC b)[off]? = some (.int .i64 (b[off]'(by omega))) := by simp [intsC, List.getElem?_eq_getElem (show off < b.length by omega)]
    have pa : (part f.type (intsC a) f.offset).run P w = .ok (.int .i64 (a[off]'(by omega))) w := by
      rw [h2, Nat.add_zero]
      simp [part, isAgg, run_underlying h3, hxa]
    have pb : (part f.type (intsC b) f.offset).run P w = .ok (.int .i64 (b[off]'(by omega))) w := by
      rw [h2, Nat.add_zero]
      simp [part, isAgg, run_underlying h3, hxb]
    rw [List.drop_eq_getElem_cons (by omega : off < a.length), List.drop_eq_getElem_cons (by omega : off < b.length)]
    rw [Op.eqFields, if_pos h1]
    simp only [Sem.run_bind, pa, pb, Result.andThen_ok, run_eqInt h3]
    by_cases he : a[off]'(by omega) = b[off]'(by omega)
    · have hb2 : (a[off]'(by omega) == b[off]'(by omega)) = true := by rw [he]; exact beq_self_eq_true _
      rw [List.cons_beq_cons, hb2, Bool.true_and]
      simp only [Bool.not_true, Bool.false_eq_true, if_false, ih]
    · have hb2 : (a[off]'(by omega) == b[off]'(by omega)) = false := by simpa using he
      rw [List.cons_beq_cons, hb2, Bool.false_and]
      simp only [Bool.not_false, if_true, Sem.run_pure]
/-! ### places -/
structure P3 where
  x : Int
  y : Int
  z : Int
def P3.l (p : P3) : List Int := [p.x, p.y, p.z]
def P3.c (p : P3) : Array Value := #[.int .i64 p.x, .int .i64 p.y, .int .i64 p.z]
theorem P3.cells (p : P3) : p.c = intsC p.l := rfl
def subP (a b : P3) : P3 := ⟨sW a.x b.x, sW a.y b.y, sW a.z b.z⟩
def crossP (a b : P3) : P3 := ⟨sW (mW a.y b.z) (mW a.z b.y), sW (mW a.z b.x) (mW a.x b.z), sW (mW a.x b.y) (mW a.y b.x)⟩
def dotP (a b : P3) : Int := aW (aW (mW a.x b.x) (mW a.y b.y)) (mW a.z b.z)
def inP (p : P3) (m : Int) : Bool := decide (max3 p.x p.y p.z ≤ m) && decide (-m ≤ min3 p.x p.y p.z)
def mayP (o d : P3) : Bool := inP o 65536 && (inP d 131072 && !(d.l == [0, 0, 0]))
theorem eqPt_run (a b : P3) (w : World) : (Op.equalIn 10000 24 (.agg a.c) (.agg b.c)).run Try.prog w = .ok (a.l == b.l) w := by
  have hu := Try.underlying24
  have hfo : Try.prog.underlying 24 = some (.struct (Try.prog.fieldsOf 24)) := by simp [Program.fieldsOf, hu]
  rw [run_equalIn_struct w 9999 24 _ _ hfo (by kernel_rfl), a.cells, b.cells]
  have := eqFields_ints (P := Try.prog) (w := w) 9998 a.l b.l (Try.prog.fieldsOf 24).toList 0 (fun i f hf => by
    simp only [Program.fieldsOf, hu] at hf
    match i, hf with
    | 0, hf => simp at hf; subst hf; exact ⟨by decide, rfl, Try.underlying3⟩
    | 1, hf => simp at hf; subst hf; exact ⟨by decide, rfl, Try.underlying3⟩
    | 2, hf => simp at hf; subst hf; exact ⟨by decide, rfl, Try.underlying3⟩
    | j + 3, hf => simp at hf) (by simp only [Program.fieldsOf, hu]; rfl) (by simp only [Program.fieldsOf, hu]; rfl)
  simpa using this
attribute [local irreducible] Calls Walk1 WalkTo Tri EndA
theorem subT_any (a b : P3) (w : World) : Calls Try.prog 32 #[.agg a.c, .agg b.c] w fun e w' => e = .returned (.agg (subP a b).c) ∧ Below w.heap.size w w' := by
  obtain ⟨x, y, z⟩ := a
  obtain ⟨x', y', z'⟩ := b
  simp only [P3.c, subP]
  refine calls_tri Try.func32 rfl Try.ntmps32 rfl ?_
  repeat (first | (show Walk1 _ _ _ (_ :: _) _ _; first | (show HW1 (.binOp .sub _ _ _ _); refine wz86 ?_) | (show HW1 (.load _ _); refine wz3 ?_) | (show HW1 (.store _ _ _); refine wz28 ?_) | (show HW1 (.alloc _); refine wz6 ?_) | (show HW1 (.box _ _); refine wz11 ?_) | (show HW1 (.fieldAddr _ _ _); refine wz4 ?_) | (show HW1 (.build _ _); refine wz25 ?_)) | refine go1 ?_ | refine end_block_other rfl ?_ | refine end_scope (fun _ h => by cases h) ?_ | (refine walk_endD ?_ ?_; (· kernel_rfl)) | refine tri_yesA rfl ?_ | refine tri_noA rfl ?_ | refine tri_trueA rfl ?_ | refine tri_falseA rfl ?_)
  refine end_ent (ent_blkA 4 (.c (subP ⟨x, y, z⟩ ⟨x', y', z'⟩).c) rfl (fun _ => rfl)) ?_
  refine end_ret _ (res_cells rfl rfl rfl rfl rfl rfl (sm_c rfl) ag_c) ?_
  exact fin_below fun _ => rfl
theorem crossT_any (a b : P3) (w : World) : Calls Try.prog 33 #[.agg a.c, .agg b.c] w fun e w' => e = .returned (.agg (crossP a b).c) ∧ Below w.heap.size w w' := by
  obtain ⟨x, y, z⟩ := a
  obtain ⟨x', y', z'⟩ := b
  simp only [P3.c, crossP]
  refine calls_tri Try.func33 rfl Try.ntmps33 rfl ?_
  repeat (first | (show Walk1 _ _ _ (_ :: _) _ _; first | (show HW1 (.binOp .sub _ _ _ _); refine wz86 ?_) | (show HW1 (.binOp .mul _ _ _ _); refine wz81 ?_) | (show HW1 (.load _ _); refine wz3 ?_) | (show HW1 (.store _ _ _); refine wz28 ?_) | (show HW1 (.alloc _); refine wz6 ?_) | (show HW1 (.box _ _); refine wz11 ?_) | (show HW1 (.fieldAddr _ _ _); refine wz4 ?_) | (show HW1 (.build _ _); refine wz25 ?_)) | refine go1 ?_ | refine end_block_other rfl ?_ | refine end_scope (fun _ h => by cases h) ?_ | (refine walk_endD ?_ ?_; (· kernel_rfl)) | refine tri_yesA rfl ?_ | refine tri_noA rfl ?_ | refine tri_trueA rfl ?_ | refine tri_falseA rfl ?_)
  refine end_ent (ent_blkA 4 (.c (crossP ⟨x, y, z⟩ ⟨x', y', z'⟩).c) rfl (fun _ => rfl)) ?_
  refine end_ret _ (res_cells rfl rfl rfl rfl rfl rfl (sm_c rfl) ag_c) ?_
  exact fin_below fun _ => rfl
theorem dotT_any (a b : P3) (w : World) : Calls Try.prog 34 #[.agg a.c, .agg b.c] w fun e w' => e = .returned (.int .i64 (dotP a b)) ∧ Below w.heap.size w w' := by
  obtain ⟨x, y, z⟩ := a
  obtain ⟨x', y', z'⟩ := b
  simp only [P3.c, dotP]
  refine calls_tri Try.func34 rfl Try.ntmps34 rfl ?_
  repeat (first | (show Walk1 _ _ _ (_ :: _) _ _; first | (show HW1 (.assign _); first | refine wz13 ?_ | refine wz2 ?_) | (show HW1 (.binOp .add _ _ _ _); refine wz53 ?_) | (show HW1 (.binOp .mul _ _ _ _); refine wz81 ?_) | (show HW1 (.load _ _); refine wz3 ?_) | (show HW1 (.box _ _); refine wz11 ?_) | (show HW1 (.fieldAddr _ _ _); refine wz4 ?_)) | refine go1 ?_ | refine end_block_other rfl ?_ | refine end_scope (fun _ h => by cases h) ?_ | (refine walk_endD ?_ ?_; (· kernel_rfl)) | refine tri_yesA rfl ?_ | refine tri_noA rfl ?_ | refine tri_trueA rfl ?_ | refine tri_falseA rfl ?_)
  refine end_ret _ (res_tmp rfl rfl) ?_
  exact fin_below fun _ => rfl
theorem within_any (p : P3) (m : Int) (hm : 0 ≤ m ∧ m ≤ 1000000) (w : World) : Calls Try.prog 29 #[.agg p.c, .int .i64 m] w fun e w' => e = .returned (.bool (inP p m)) ∧ Below w.heap.size w w' := by
  obtain ⟨x, y, z⟩ := p
  simp only [P3.c, inP]
  by_cases h : max3 x y z ≤ m
  · rw [decide_eq_true h, Bool.true_and]
    refine calls_tri Try.func29 rfl Try.ntmps29 rfl ?_
    repeat (first | (show Walk1 _ _ _ (_ :: _) _ _; first | (show Walk1 _ _ _ (⟨_, _, _, _, _, some _⟩ :: _) _ _; refine zy1 ?_) | (show HW1 (.move _); refine wz1 ?_) | (show HW1 (.assign _); refine wz2 ?_) | (show HW1 (.binOp .leq _ _ _ _); refine wz75 ?_) | (show HW1 (.binOp .geq _ _ _ _); refine wz71 ?_) | (show HW1 (.pick _ _ _); refine wz8 ?_) | (show HW1 (.unOp _ _ _); refine wz46 ?_) | (show HW1 (.load _ _); refine wz3 ?_) | (show HW1 (.box _ _); refine wz11 ?_) | (show HW1 (.fieldAddr _ _ _); refine wz4 ?_) | (show HW1 (.call ⟨.builtin .min, _, _⟩); refine wz73 ?_) | (show HW1 (.call ⟨.builtin .max, _, _⟩); refine wz74 ?_)) | refine go1 ?_ | refine end_block_other rfl ?_ | refine end_scope (fun _ h => by cases h) ?_ | (refine walk_endD ?_ ?_; (· kernel_rfl)) | refine tri_yesA rfl ?_ | refine tri_noA rfl ?_ | refine tri_trueA rfl ?_ | refine tri_falseA rfl ?_)
    refine end_ret _ (res_tmp rfl rfl) ?_
    exact fin_below fun _ => rfl
  · rw [decide_eq_false h, Bool.false_and]
    refine calls_tri Try.func29 rfl Try.ntmps29 rfl ?_
    repeat (first | (show Walk1 _ _ _ (_ :: _) _ _; first | (show Walk1 _ _ _ (⟨_, _, _, _, _, some _⟩ :: _) _ _; refine zn1 ?_) | (show HW1 (.move _); refine wz1 ?_) | (show HW1 (.assign _); refine wz2 ?_) | (show HW1 (.binOp .leq _ _ _ _); refine wz75 ?_) | (show HW1 (.pick _ _ _); refine wz7 ?_) | (show HW1 (.load _ _); refine wz3 ?_) | (show HW1 (.box _ _); refine wz11 ?_) | (show HW1 (.fieldAddr _ _ _); refine wz4 ?_) | (show HW1 (.call ⟨.builtin .max, _, _⟩); refine wz74 ?_)) | refine go1 ?_ | refine end_block_other rfl ?_ | refine end_scope (fun _ h => by cases h) ?_ | (refine walk_endD ?_ ?_; (· kernel_rfl)) | refine tri_yesA rfl ?_ | refine tri_noA rfl ?_ | refine tri_trueA rfl ?_ | refine tri_falseA rfl ?_)
    refine end_ret (.c (.bool false)) (res_tmp rfl (by first | rfl | simp)) ?_
    exact fin_below fun _ => rfl
theorem mayT_any (o d : P3) (w : World) : Calls Try.prog 12 #[.agg o.c, .agg d.c] w fun e w' => e = .returned (.bool (mayP o d)) ∧ Below w.heap.size w w' := by
  have c1 := fun w => within_any o 65536 (by omega) w
  have c2 := fun w => within_any d 131072 (by omega) w
  have hr := fun w => eqPt_run d ⟨0, 0, 0⟩ w
  rw [show (⟨0, 0, 0⟩ : P3).c = #[.int .i64 0, .int .i64 0, .int .i64 0] from rfl] at hr
  have hso : o.c.size = 3 := rfl
  have hsd : d.c.size = 3 := rfl
  have h0 : (⟨0, 0, 0⟩ : P3).l = [0, 0, 0] := rfl
  rw [h0] at hr
  unfold mayP
  generalize inP o 65536 = A at *
  generalize inP d 131072 = B at *
  generalize (d.l == [0, 0, 0]) = E at *
  generalize o.c = O at *
  generalize d.c = D at *
  cases A <;> cases B
  all_goals
    refine calls_tri Try.func12 rfl Try.ntmps12 rfl ?_
    repeat (first | (show Walk1 _ _ _ (_ :: _) _ _; first | (show Walk1 _ _ _ (⟨_, _, _, _, _, some _⟩ :: _) _ _; first | refine zy1 ?_ | refine zn1 ?_) | (show HW1 (.move _); refine wz1 ?_) | (show HW1 (.assign _); refine wz2 ?_) | (show HW1 (.binOp .neq _ _ _ _); refine walk1_t (op_neR (by assumption) rfl rfl rfl rfl rfl (fun _ => rfl) (fun _ => rfl) (by kernel_rfl)) ?_) | (show HW1 (.pick _ _ _); first | refine wz8 ?_ | refine wz7 ?_) | (show HW1 (.load _ _); refine wz9 ?_) | (show HW1 (.box _ _); refine wz11 ?_) | (show HW1 (.build _ _); refine wz32 ?_) | (show HW1 (.call ⟨.value (.func 29), _, _⟩); ((first | refine cwalk11 29 ?_ | refine cwalk10 29 ?_); refine ⟨_, fun e w => c1 w, ?_⟩)) | (show HW1 (.call ⟨.value (.func 29), _, _⟩); ((first | refine cwalk11 29 ?_ | refine cwalk10 29 ?_); refine ⟨_, fun e w => c2 w, ?_⟩))) | refine go1 ?_ | refine end_block_other rfl ?_ | refine end_scope (fun _ h => by cases h) ?_ | (refine walk_endD ?_ ?_; (· kernel_rfl)) | refine tri_yesA rfl ?_ | refine tri_noA rfl ?_ | refine tri_trueA rfl ?_ | refine tri_falseA rfl ?_)
    first
    | (refine end_ret (.c (.bool false)) (res_tmp rfl rfl) ?_; exact fin_below fun _ => rfl)
    | (refine end_ret (.c (.bool (!E))) (res_tmp rfl rfl) ?_; exact fin_below fun _ => rfl)
theorem farT_any (p : P3) (w : World) : Calls Try.prog 30 #[.agg p.c] w fun e w' => e = .returned (.bool (!(inP p 65536))) ∧ Below w.heap.size w w' := by
  have c1 := fun w => within_any p 65536 (by omega) w
  have hs : p.c.size = 3 := rfl
  generalize inP p 65536 = A at *
  generalize p.c = O at *
  refine calls_tri Try.func30 rfl Try.ntmps30 rfl ?_
  repeat (first | (show Walk1 _ _ _ (_ :: _) _ _; first | (show HW1 (.assign _); refine wz2 ?_) | (show HW1 (.unOp _ _ _); refine wz19 ?_) | (show HW1 (.load _ _); refine wz9 ?_) | (show HW1 (.box _ _); refine wz11 ?_) | (show HW1 (.call ⟨.value (.func 29), _, _⟩); ((first | refine cwalk11 29 ?_ | refine cwalk10 29 ?_); refine ⟨_, fun e w => c1 w, ?_⟩))) | refine go1 ?_ | refine end_block_other rfl ?_ | refine end_scope (fun _ h => by cases h) ?_ | (refine walk_endD ?_ ?_; (· kernel_rfl)) | refine tri_yesA rfl ?_ | refine tri_noA rfl ?_ | refine tri_trueA rfl ?_ | refine tri_falseA rfl ?_)
  refine end_ret (.c (.bool (!A))) (res_tmp rfl rfl) ?_
  exact fin_below fun _ => rfl
end Go.Proofs.Ytcookaiakfbdiaa
namespace Go.Proofs.Ytcookaiakfbdiaa
open Go.RowKit
set_option maxRecDepth 100000
set_option maxHeartbeats 1000000
def ptsC (l : List P3) : List Value := l.flatMap fun p => p.c.toList
def outF (p : P3) : Bool := !(inP p 65536)
def firstOut (l : List P3) : Int := if l.findIdx outF < l.length then ((l.findIdx outF : Nat) : Int) else -1
theorem firstOut_at {l : List P3} {j : Nat} (hj : j < l.length) (h : outF l[j] = true) (hp : ∀ i (hi : i < j), outF (l[i]'(by omega)) = false) : firstOut l = (j : Int) := by
  have : l.findIdx outF = j := (List.findIdx_eq hj).2 ⟨h, fun i hi => hp i hi⟩
  rw [firstOut, this, if_pos hj]
theorem firstOut_none {l : List P3} (hp : ∀ i (hi : i < l.length), outF l[i] = false) : firstOut l = -1 := by
  have : l.findIdx outF = l.length := List.findIdx_eq_length_of_false fun x hx => by
    obtain ⟨i, hi, rfl⟩ := List.getElem_of_mem hx
    exact hp i hi
  rw [firstOut, this, if_neg (by omega)]
theorem firstOut_any (l : List P3) : decide (0 ≤ firstOut l) = l.any outF := by
  rw [Bool.eq_iff_iff, decide_eq_true_eq, List.any_eq_true]
  constructor
  · intro h
    unfold firstOut at h
    split at h
    · rename_i hl
      exact ⟨_, List.getElem_mem hl, List.findIdx_getElem (w := hl)⟩
    · omega
  · rintro ⟨x, hx, hf⟩
    have hl : l.findIdx outF < l.length := List.findIdx_lt_length_of_exists ⟨x, hx, hf⟩
    rw [firstOut, if_pos hl]
    omega
attribute [local irreducible] Calls Walk1 WalkTo Tri EndA
theorem indexFunc_any (v : Value) (l : List P3) (w : World) (hv : RdV w 3 v l.length (ptsC l)) (hl : l.length ≤ 100000) :
    Calls Try.prog 56 #[v, .func (.func 30) #[] #[]] w fun e w' => e = .returned (.int .i64 (firstOut l)) ∧ Below w.heap.size w w' := by
  have hzl : ∀ p ∈ l, p.c.toList.length = 3 := fun _ _ => rfl
  have hrow := fun i p h => flat_row l hzl i p h
  have hlen : (ptsC l).length = l.length * 3 := hv.1
  have hd : ptsC l = l.flatMap fun p => p.c.toList := rfl
  rw [← hd] at hrow
  have cf := farT_any
  refine calls_tri Try.func56 rfl Try.ntmps56 rfl ?_
  repeat (first | (show Walk1 _ _ _ (_ :: _) _ _; first | (show HW1 (.move _); first | refine wz40 ?_ | refine wz1 ?_) | (show HW1 (.assign _); refine wz13 ?_) | (show HW1 (.call ⟨.builtin .len, _, _⟩); refine wz27 ?_)) | refine go1 ?_ | refine end_block_other rfl ?_ | refine end_scope (fun _ h => by cases h) ?_ | (refine walk_endD ?_ ?_; (· kernel_rfl)) | refine tri_yesA rfl ?_ | refine tri_noA rfl ?_ | refine tri_trueA rfl ?_ | refine tri_falseA rfl ?_)
  refine tri_loop (X := Nat) (fun j => ⟨[(8, SV.c (.int .i64 ((j : Nat) : Int))), (7, SV.c (.int .i64 ((l.length : Nat) : Int))), (0, .c v), (1, .c (.func (.func 30) #[] #[]))], []⟩)
    (fun j => j ≤ l.length ∧ ∀ i (hi : i < j) (hi2 : i < l.length), outF l[i] = false) (fun j => l.length - j) 0 ⟨by omega, fun i hi => by omega⟩ (ent_keep (by repeat (first | exact hasT_nil | refine hasT_cons rfl ?_ | refine hasT_eq rfl (svi (by omega)) ?_)) (by repeat (first | exact hasR_nil | refine hasR_cons rfl ?_))) ?_
  rintro j ⟨hj, hp⟩ K next
  by_cases h : j < l.length
  · have hr := hrow j l[j] (List.getElem?_eq_getElem h)
    have c1 := fun w => cf l[j] w
    have nx := fun S' => next S' (j + 1)
    rw [show j * 3 = 0 + j * 3 by omega] at hr
    have ho : (!(inP l[j] 65536)) = outF l[j] := rfl
    rw [ho] at c1
    clear next hrow cf
    cases hb : outF l[j] with
    | false =>
      rw [hb] at c1
      have hp1 : ∀ i (hi : i < j + 1) (hi2 : i < l.length), outF l[i] = false := fun i hi hi2 => by
        rcases Nat.lt_or_ge i j with h1 | h1
        · exact hp i h1 hi2
        · obtain rfl : i = j := by omega
          exact hb
      clear hp hb
      repeat (first | (show Walk1 _ _ _ (_ :: _) _ _; first | (show HW1 (.move _); refine wz1 ?_) | (show HW1 (.assign _); refine wz2 ?_) | (show HW1 (.binOp .add _ _ _ _); refine wz10 ?_) | (show HW1 (.binOp .lss _ _ _ _); refine wz5 ?_) | (show HW1 (.indexAddr _ _ _); refine wz26 ?_) | (show HW1 (.load _ _); refine wz51 ?_) | (show HW1 (.call ⟨.value (.tmp _), _, _⟩); (refine walk1_callMV rfl rfl rfl rfl rfl evq rfl ?_; refine ⟨[], _, (fun _ e _ w _ _ => c1 w), ?_⟩))) | refine go1 ?_ | refine end_block_other rfl ?_ | refine end_scope (fun _ h => by cases h) ?_ | (refine walk_endD ?_ ?_; (· kernel_rfl)) | refine tri_yesA rfl ?_ | refine tri_noA rfl ?_ | refine tri_trueA rfl ?_ | refine tri_falseA rfl ?_)
      exact nx _ ⟨by omega, hp1⟩ (by omega) (ent_keep (by repeat (first | exact hasT_nil | refine hasT_cons rfl ?_ | refine hasT_eq rfl (svi (by omega)) ?_)) (by repeat (first | exact hasR_nil | refine hasR_cons rfl ?_)))
    | true =>
      rw [hb] at c1
      rw [firstOut_at h hb fun i hi => hp i hi (by omega)]
      clear hp hb nx
      repeat (first | (show Walk1 _ _ _ (_ :: _) _ _; first | (show HW1 (.move _); refine wz1 ?_) | (show HW1 (.assign _); refine wz2 ?_) | (show HW1 (.binOp .lss _ _ _ _); refine wz5 ?_) | (show HW1 (.indexAddr _ _ _); refine wz26 ?_) | (show HW1 (.load _ _); refine wz51 ?_) | (show HW1 (.call ⟨.value (.tmp _), _, _⟩); (refine walk1_callMV rfl rfl rfl rfl rfl evq rfl ?_; refine ⟨[], _, (fun _ e _ w _ _ => c1 w), ?_⟩))) | refine go1 ?_ | refine end_block_other rfl ?_ | refine end_scope (fun _ h => by cases h) ?_ | (refine walk_endD ?_ ?_; (· kernel_rfl)) | refine tri_yesA rfl ?_ | refine tri_noA rfl ?_ | refine tri_trueA rfl ?_ | refine tri_falseA rfl ?_)
      refine end_ret (.c (.int .i64 (j : Int))) (res_tmp rfl rfl) ?_
      exact fin_below fun _ => rfl
  · obtain rfl : j = l.length := by omega
    rw [firstOut_none fun i hi => hp i hi hi]
    clear next hrow hp
    repeat (first | (show Walk1 _ _ _ (_ :: _) _ _; first | (show HW1 (.assign _); refine wz2 ?_) | (show HW1 (.binOp .lss _ _ _ _); refine wz5 ?_)) | refine go1 ?_ | refine end_block_other rfl ?_ | refine end_scope (fun _ h => by cases h) ?_ | (refine walk_endD ?_ ?_; (· kernel_rfl)) | refine tri_yesA rfl ?_ | refine tri_noA rfl ?_ | refine tri_trueA rfl ?_ | refine tri_falseA rfl ?_)
    refine end_ret (.c (.int .i64 (-1))) (res_tmp rfl rfl) ?_
    exact fin_below fun _ => rfl
theorem containsFunc_any (v : Value) (l : List P3) (w : World) (hv : RdV w 3 v l.length (ptsC l)) (hl : l.length ≤ 100000) :
    Calls Try.prog 31 #[v, .func (.func 30) #[] #[]] w fun e w' => e = .returned (.bool (l.any outF)) ∧ Below w.heap.size w w' := by
  have ci := fun w h => indexFunc_any v l w h hl
  rw [← firstOut_any]
  generalize firstOut l = F at *
  refine calls_tri Try.func31 rfl Try.ntmps31 rfl ?_
  repeat (first | (show Walk1 _ _ _ (_ :: _) _ _; first | (show HW1 (.move _); refine wz1 ?_) | (show HW1 (.assign _); refine wz2 ?_) | (show HW1 (.binOp .geq _ _ _ _); refine wz71 ?_) | (show HW1 (.call ⟨.value (.func 56), _, _⟩); (refine cwalk1M 56 ?_; refine ⟨_, _, callM_1 (rdn_old hv (by omega) rfl) (fun e w h1 => ci w h1), ?_⟩))) | refine go1 ?_ | refine end_block_other rfl ?_ | refine end_scope (fun _ h => by cases h) ?_ | (refine walk_endD ?_ ?_; (· kernel_rfl)) | refine tri_yesA rfl ?_ | refine tri_noA rfl ?_ | refine tri_trueA rfl ?_ | refine tri_falseA rfl ?_)
  refine end_ret (.c (.bool (decide (0 ≤ F)))) (res_tmp rfl rfl) ?_
  exact fin_below fun _ => rfl
/-! ### the document's -/
/-! ### where a ray meets a triangle -/
structure M4 where
  num : Int
  det : Int
  u : Int
  v : Int
def M4.c (m : M4) : Array Value := #[.int .i64 m.num, .int .i64 m.det, .int .i64 m.u, .int .i64 m.v]
def zM : M4 := ⟨0, 0, 0, 0⟩
def rawM (o d p0 p1 p2 : P3) : M4 :=
  ⟨dotP (subP p2 p0) (crossP (subP o p0) (subP p1 p0)), dotP (subP p1 p0) (crossP d (subP p2 p0)), dotP (subP o p0) (crossP d (subP p2 p0)), dotP d (crossP (subP o p0) (subP p1 p0))⟩
def turnM (m : M4) : M4 := if m.det < 0 then ⟨nW m.num, nW m.det, nW m.u, nW m.v⟩ else m
def badM (m : M4) : Prop := m.det = 0 ∨ m.u < 0 ∨ m.v < 0 ∨ m.det < aW m.u m.v ∨ m.num ≤ 0
instance (m : M4) : Decidable (badM m) := by unfold badM; exact inferInstance
def endM (m : M4) : M4 × Bool := if badM m then (zM, false) else (m, true)
def hitM (o d p0 p1 p2 : P3) : M4 × Bool := if (mayP o d && !([p0, p1, p2].any outF)) = true then endM (turnM (rawM o d p0 p1 p2)) else (zM, false)
end Go.Proofs.Ytcookaiakfbdiaa
