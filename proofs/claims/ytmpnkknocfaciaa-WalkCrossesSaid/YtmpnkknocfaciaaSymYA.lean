/- A closure called; a capacity; a slice grown out of none; what is left of an own slice that is cut; an array behind a slice that lay there. No condition. Whole numbers that go round; the least and the greatest of three; a closure that hands back a value. No condition. -/
import Derived.Test.YtmpnkknocfaciaaSymSX
import Derived.Test.YtmpnkknocfaciaaSymLR
import Derived.Lib.AppendZeros
namespace Go.Proofs.Ytmpnkknocfaciaa
open Go.RowKit
set_option maxRecDepth 100000
set_option maxHeartbeats 1000000
variable {C : Ctx} {ops : Array Oper} {S : St} {o : Oper}
/-! ### a closure that holds nothing -/
section
variable {l : List Oper} {t : List (Nat × SV)} {h : List (Nat × Option Res)} {d t0 : Nat} {f j : FuncId} {xs : Array Operand} {ats : Array TypeId} {vs : List SV}
end
section
variable {dst : Option Tmp} {x y : Operand} {t T ty : TypeId} {pos : String} {after : Array Edge}
end
/-! ### what is left of an own slice -/
/-! ### an array behind a slice that lay there -/
end Go.Proofs.Ytmpnkknocfaciaa
namespace Go.Proofs.Ytmpnkknocfaciaa
open Go.RowKit
set_option maxRecDepth 100000
def aW (a b : Int) : Int := IntKind.i64.wrap (a + b)
def sW (a b : Int) : Int := IntKind.i64.wrap (a - b)
def mW (a b : Int) : Int := IntKind.i64.wrap (a * b)
def nW (a : Int) : Int := IntKind.i64.wrap (0 - a)
def max3 (a b c : Int) : Int := max (max a b) c
def min3 (a b c : Int) : Int := min (min a b) c
variable {C : Ctx} {ops : Array Oper} {S : St} {o : Oper}
section
variable {x y : Operand} {ty yt : TypeId} {a b : Int}
theorem op_addW (ho : o.op = .binOp .add ty x y yt) (hg : o.guard = none) (hd : dstB o.dst C.nt = true) (hx : EvI S x a) (hy : EvI S y b) : OpG C Try.prog ops o S ⟨opT x ++ opT y, [], dw o.dst (.c (.int .i64 (aW a b))), [], []⟩ :=
  op_int2 ho hg hd hx hy fun w => by rw [run_arith.1]; rfl
theorem op_subW (ho : o.op = .binOp .sub ty x y yt) (hg : o.guard = none) (hd : dstB o.dst C.nt = true) (hx : EvI S x a) (hy : EvI S y b) : OpG C Try.prog ops o S ⟨opT x ++ opT y, [], dw o.dst (.c (.int .i64 (sW a b))), [], []⟩ :=
  op_int2 ho hg hd hx hy fun w => by rw [run_arith.2.1]; rfl
theorem op_mulW (ho : o.op = .binOp .mul ty x y yt) (hg : o.guard = none) (hd : dstB o.dst C.nt = true) (hx : EvI S x a) (hy : EvI S y b) : OpG C Try.prog ops o S ⟨opT x ++ opT y, [], dw o.dst (.c (.int .i64 (mW a b))), [], []⟩ :=
  op_int2 ho hg hd hx hy fun w => by rw [run_arith.2.2]; rfl
theorem op_negW (ho : o.op = .unOp .neg ty x) (hg : o.guard = none) (hd : dstB o.dst C.nt = true) (hx : EvI S x a) : OpG C Try.prog ops o S ⟨opT x, [], dw o.dst (.c (.int .i64 (nW a))), [], []⟩ := by
  refine op_one (v := .c (.int .i64 (nW a))) hg hd hx fun e ρ w h1 => ?_
  have h1' : ρ x = .int .i64 a := h1
  simp only [execOp, ho, h1', Sem.run_bind, Op.unary, Op.intArith, Result.andThen_ok, Sem.run_pure]
  rfl
end
section
variable {dst : Option Tmp} {x y z : Operand} {ats : Array TypeId} {ty : TypeId} {pos : String} {after : Array Edge} {a b c : Int}
theorem op_max3I (hd : dstB dst C.nt = true) (hx : EvI S x a) (hy : EvI S y b) (hz : EvI S z c) : OpG C Try.prog ops ⟨dst, .call { callee := .builtin .max, args := #[x, y, z], argTypes := ats }, ty, pos, after, none⟩ S ⟨[x, y, z].flatMap opT, [], dw dst (.c (.int .i64 (max3 a b c))), [], []⟩ := by
  have := op_value (C := C) (P := Try.prog) (ops := ops) (S := S) (o := ⟨dst, .call { callee := .builtin .max, args := #[x, y, z], argTypes := ats }, ty, pos, after, none⟩) rfl hd [x, y, z] [] (.c (.int .i64 (max3 a b c))) fun S' e aa w hS h1 h2 => by
    have e1 : aa.eval x = .int .i64 a := hS.ev ((h1 x (by simp)).trans hx)
    have e2 : aa.eval y = .int .i64 b := hS.ev ((h1 y (by simp)).trans hy)
    have e3 : aa.eval z = .int .i64 c := hS.ev ((h1 z (by simp)).trans hz)
    have hm : (if (if a < b then b else a) < c then c else if a < b then b else a) = max3 a b c := by unfold max3; omega
    simp [execOp, resolve, invoke, builtin, e1, e2, e3, Builtin.max_, Builtin.max2, hm, SV.c]
  simpa using this
theorem op_min3I (hd : dstB dst C.nt = true) (hx : EvI S x a) (hy : EvI S y b) (hz : EvI S z c) : OpG C Try.prog ops ⟨dst, .call { callee := .builtin .min, args := #[x, y, z], argTypes := ats }, ty, pos, after, none⟩ S ⟨[x, y, z].flatMap opT, [], dw dst (.c (.int .i64 (min3 a b c))), [], []⟩ := by
  have := op_value (C := C) (P := Try.prog) (ops := ops) (S := S) (o := ⟨dst, .call { callee := .builtin .min, args := #[x, y, z], argTypes := ats }, ty, pos, after, none⟩) rfl hd [x, y, z] [] (.c (.int .i64 (min3 a b c))) fun S' e aa w hS h1 h2 => by
    have e1 : aa.eval x = .int .i64 a := hS.ev ((h1 x (by simp)).trans hx)
    have e2 : aa.eval y = .int .i64 b := hS.ev ((h1 y (by simp)).trans hy)
    have e3 : aa.eval z = .int .i64 c := hS.ev ((h1 z (by simp)).trans hz)
    have hm : (if c < (if b < a then b else a) then c else if b < a then b else a) = min3 a b c := by unfold min3; omega
    simp [execOp, resolve, invoke, builtin, e1, e2, e3, Builtin.min_, Builtin.min2, hm, SV.c]
  simpa using this
end
/-! ### a closure that hands back a value -/
theorem op_callMV {t0 f : Nat} {xs : Array Operand} {ats : Array TypeId} {vs : List SV} {rb : List Nat} {v : Value} {j : FuncId} (ho : o.op = .call { callee := .value (.tmp t0), args := xs, argTypes := ats }) (hcal : S.ev (.tmp t0) = some (.c (.func (.func f) #[] #[]))) (hg : o.guard = none) (hd : dstB o.dst C.nt = true) (hxs : EvS S xs.toList vs) (hc' : tabLook calT f = some j) (hcon : CallM C S rb j vs v) :
    OpG C Try.prog ops o S ⟨t0 :: xs.toList.flatMap opT, rb, dw o.dst (.c v), [], []⟩ := by
  refine opG_mk hg fun S' h1 h2 _ e a w hS => ?_
  have hev : xs.toList.map S'.ev = vs.map some := by
    rw [← show xs.toList.map S.ev = vs.map some from hxs]
    exact List.map_congr_left fun x hx => ev_like h1 fun i hi => List.mem_cons_of_mem _ (List.mem_flatMap.2 ⟨x, hx, hi⟩)
  have hargs : xs.map a.eval = (vs.map (·.den e)).toArray := by
    rw [← evs_all hS _ _ hev, ← Array.toList_map, Array.toArray_toList]
  have hfn : a.eval (.tmp t0) = .func (.func f) #[] #[] := hS.ev ((ev_like h1 fun i hi => by simp [opT] at hi; subst hi; exact List.mem_cons_self).trans hcal)
  have hcall := tabAll_look calT_ok hc'
  have hop : (execOp a.eval o).run Try.prog w = .ok (.enter j (vs.map (·.den e)).toArray) w := by
    simp only [execOp, ho, resolve, hfn, Deferred.ofValue, Sem.run_bind, Sem.run_pure, Result.andThen_ok, invoke, Array.empty_append, Array.append_empty, hargs]
    exact hcall _ w
  unfold Oper.wp
  rw [hop]
  refine Calls.mono (hcon S' e a w hS h2) ?_
  rintro r w' ⟨rfl, hb⟩
  exact ⟨e, (hS.world hb).put hd (.c v)⟩
section
variable {l : List Oper} {t : List (Nat × SV)} {h : List (Nat × Option Res)} {d t0 : Nat} {f j : FuncId} {xs : Array Operand} {ats : Array TypeId} {vs : List SV}
theorem walk1_callMV {K : St → Prop} (ho : o.op = .call { callee := .value (.tmp t0), args := xs, argTypes := ats }) (hcal : (St.mk t h).ev (.tmp t0) = some (.c (.func (.func f) #[] #[]))) (hdn : o.dst = some d) (hg : o.guard = none) (hd : dstB o.dst C.nt = true) (hxs : EvS ⟨t, h⟩ xs.toList vs) (hc' : tabLook calT f = some j)
    (hK : ∃ rb v, CallM C ⟨t, h⟩ rb j vs v ∧ Walk1 C Try.prog ops l ⟨(d, .c v) :: t, h⟩ K) : Walk1 C Try.prog ops (o :: l) ⟨t, h⟩ K := by
  obtain ⟨rb, v, h1, h2⟩ := hK
  have := op_callMV (C := C) (ops := ops) ho hcal hg hd hxs hc' h1
  rw [hdn] at this
  exact walk1_t this h2
end
end Go.Proofs.Ytmpnkknocfaciaa
