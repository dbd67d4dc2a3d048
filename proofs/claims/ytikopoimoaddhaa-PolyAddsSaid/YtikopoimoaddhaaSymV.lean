/- Arrays of whole numbers, none of them below 0. No condition. -/
import Derived.Test.YtikopoimoaddhaaSymU
namespace Go.Proofs.Ytikopoimoaddhaa
open Go.RowKit
set_option maxRecDepth 100000
variable {C : Ctx} {ops : Array Oper} {S : St} {o : Oper}
def gtN (l : List Nat) (i : Nat) : Nat := l.getD i 0
theorem gtN_set {l : List Nat} {i : Nat} (h : i < l.length) (j x : Nat) : gtN (l.set i x) j = if i = j then x else gtN l j := by
  unfold gtN
  simp only [List.getD_eq_getElem?_getD, List.getElem?_set]
  by_cases e : i = j
  · subst e; simp [h]
  · simp [e]
def valsN (l : List Nat) : Array Value := (l.map fun n => Value.int .i64 ((n : Nat) : Int)).toArray
theorem valsN_size (l : List Nat) : (valsN l).size = l.length := by simp [valsN]
theorem ld_valsN {l : List Nat} {i : Nat} (h : i < l.length) : ∀ e, ((SA.c (valsN l)).den e)[i]? = some ((SV.c (.int .i64 ((gtN l i : Nat) : Int))).den e) := fun e => by
  simp [SA.c, SV.c, valsN, gtN, List.getD, List.getElem?_eq_getElem h]
theorem sz_valsN {l : List Nat} {i : Nat} (h : i < l.length) : ∀ e, i < ((SA.c (valsN l)).den e).size := fun e => by
  simpa [SA.c, valsN_size] using h
theorem sm_valsN {l : List Nat} {n : Nat} (h : l.length = n) : ∀ e, ((SA.c (valsN l)).den e).size = n := fun e => by
  simpa [SA.c, valsN_size] using h
theorem st_valsN {l : List Nat} {i n : Nat} : ∀ e, ((SA.c (valsN l)).den e).setIfInBounds i ((SV.c (.int .i64 ((n : Nat) : Int))).den e) = (SA.c (valsN (l.set i n))).den e := fun e => by
  simp [SA.c, SV.c, valsN, List.map_set]
theorem oc_valsN {l : List Nat} : ∀ e, ((SA.c (valsN l)).den e).all (·.oneCell') = true := fun e => by
  simp [SA.c, valsN, Value.oneCell']
theorem op_storeN {ty : TypeId} {x y : Operand} {n off m : Nat} {T : TypeId} {l : List Nat} (ho : o.op = .store ty x y) (hg : o.guard = none) (hdst : o.dst = none) (hx : S.ev x = some (.p n off)) (hy : S.ev y = some (.c (.int .i64 ((m : Nat) : Int)))) (hr : S.res n = some (.blk n T (.c (valsN l))))
    (hi' : tabLook sizT ty = some 1) (h : off < l.length) : OpG C Try.prog ops o S ⟨opT x ++ opT y, n :: (SA.c (valsN (l.set off m))).sup, [], [(n, some (.blk n T (.c (valsN (l.set off m)))))], []⟩ :=
  op_store ho hg hdst hx hy hr hi' (fun _ => rfl) (sz_valsN h) st_valsN
theorem op_loadN {ty : TypeId} {x : Operand} {n off : Nat} {T : TypeId} {l : List Nat} {wr : Bool} {d : TypeDesc} (ho : o.op = .load ty x) (hg : o.guard = none) (hd : dstB o.dst C.nt = true) (hx : S.ev x = some (.p n off)) (hr : S.res n = some (.blk n T (.c (valsN l)) wr)) (hu' : tabLook undT ty = some d) (hda : d.isRow = false) (h : off < l.length) :
    OpG C Try.prog ops o S ⟨opT x, n :: (SV.c (.int .i64 ((gtN l off : Nat) : Int))).sup, dw o.dst (.c (.int .i64 ((gtN l off : Nat) : Int))), [], []⟩ :=
  op_load ho hg hd hx hr hu' hda (ld_valsN h)
theorem op_loadsN {ty : TypeId} {x : Operand} {n : Nat} {T : TypeId} {l : List Nat} {wr : Bool} {d : TypeDesc} {m : Nat} (ho : o.op = .load ty x) (hg : o.guard = none) (hd : dstB o.dst C.nt = true) (hx : S.ev x = some (.p n 0)) (hr : S.res n = some (.blk n T (.c (valsN l)) wr)) (hu' : tabLook undT ty = some d) (hda : d.isRow = true) (hi' : tabLook sizT ty = some m) (h : l.length = m) :
    OpG C Try.prog ops o S ⟨opT x, n :: (SV.c (.agg (valsN l))).sup, dw o.dst (.c (.agg (valsN l))), [], []⟩ :=
  op_loads ho hg hd hx hr hu' hda hi' (sm_valsN h) ag_c
theorem op_storesN {ty : TypeId} {x y : Operand} {n : Nat} {T : TypeId} {Z : Array Value} {l : List Nat} {m : Nat} (ho : o.op = .store ty x y) (hg : o.guard = none) (hdst : o.dst = none) (hx : S.ev x = some (.p n 0)) (hy : S.ev y = some (.c (.agg (valsN l)))) (hr : S.res n = some (.blk n T (.c Z)))
    (hi' : tabLook sizT ty = some m) (hZ : Z.size = m) (h : l.length = m) : OpG C Try.prog ops o S ⟨opT x ++ opT y, n :: (SA.c (valsN l)).sup, [], [(n, some (.blk n T (.c (valsN l))))], []⟩ :=
  op_stores ho hg hdst hx hy hr hi' (fun _ => hZ) ga_c (sm_valsN h) oc_valsN
theorem op_allocN {ty : TypeId} {l : List Nat} {n : Nat} (ho : o.op = .alloc ty) (hdn : o.dst = some n) (hg : o.guard = none) (hd : dstB o.dst C.nt = true) (_hl : l = [0, 0, 0, 0, 0]) (hz : tabLook zerT ty = some (valsN [0, 0, 0, 0, 0])) :
    OpG C Try.prog ops o S ⟨[], [], dw o.dst (.p n 0), [(n, some (.blk n ty (.c (valsN l))))], [n]⟩ := by subst _hl; exact op_alloc ho hdn hg hd hz
end Go.Proofs.Ytikopoimoaddhaa
