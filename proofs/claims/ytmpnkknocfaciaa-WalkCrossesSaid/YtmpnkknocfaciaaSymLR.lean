/- Strings; conversions of slices; rows of a few bytes. No condition. A slice that was built is an own one. No condition. Two rows handed back; a slice and a slice of slices handed over. No condition. A string as new bytes. No condition. A slice of its own and a value, handed back together; the lesser of two bytes. No condition. A row out of a slice. No condition. -/
import Derived.Test.YtmpnkknocfaciaaSymHK
import Derived.Laws.Strings2
import Derived.Laws.Concat
import Derived.Laws.IdiomStrings
namespace Go.Proofs.Ytmpnkknocfaciaa
open Go.RowKit
set_option maxRecDepth 100000
variable {C : Ctx} {ops : Array Oper} {S : St} {o : Oper}
section
variable {x y : Operand} {t T ty yt : TypeId} {s s' : ByteArray} {l l' : List (BitVec 8)}
end
/-! ### a few bytes in a block -/
/-! ### a slice, converted to its own type -/
end Go.Proofs.Ytmpnkknocfaciaa
namespace Go.Proofs.Ytmpnkknocfaciaa
open Go.RowKit
set_option maxRecDepth 100000
variable {C : Ctx} {ops : Array Oper} {S : St} {o : Oper}
/-! ### guards whose operation did not run -/
section
variable {P : Program} {dst : Option Tmp} {op : Op} {ty : TypeId} {pos : String} {after : Array Edge} {j : Nat} {want : Bool} {g d : Nat} {l : List Oper} {t : List (Nat × SV)} {h : List (Nat × Option Res)}
theorem opG_noU (hj : (ops[j]?).bind (·.dst) = some g) (hv : S.tmp g = some (.c undef)) (hd : dstB dst C.nt = true) : OpG C P ops ⟨dst, op, ty, pos, after, some (j, want)⟩ S ⟨[g], [], dw dst (.c undef), [], []⟩ := by
  intro S' h1 h2 h3 e a w hS
  have hy : yielded ops a.tmps j = none := by
    have := hS.tmp g _ ((h1 g (by simp)).trans hv)
    unfold yielded
    rw [hj]
    simp only [Option.bind_some, this]
    rfl
  rw [if_neg (by simp [Region.wanted, hy])]
  exact ⟨e, hS.put hd (.c undef)⟩
theorem walk1_noU {K : St → Prop} (hj : (ops[j]?).bind (·.dst) = some g) (hv : look t g = some (.c undef)) (hd : dstB (some d) C.nt = true) (hK : Walk1 C P ops l ⟨(d, .c undef) :: t, h⟩ K) : Walk1 C P ops (⟨some d, op, ty, pos, after, some (j, want)⟩ :: l) ⟨t, h⟩ K :=
  walk1_t (opG_noU (S := ⟨t, h⟩) hj hv hd) hK
end
end Go.Proofs.Ytmpnkknocfaciaa
namespace Go.Proofs.Ytmpnkknocfaciaa
open Go.RowKit
set_option maxRecDepth 100000
variable {C : Ctx} {ops : Array Oper} {S : St} {o : Oper}
theorem res_cells2 {fn : Func} {t1 t2 : Tmp} {ty1 ty2 : TypeId} {n1 n2 m1 m2 : Nat} {T1 T2 : TypeId} {A1 A2 : Array Value} {wr1 wr2 : Bool} {d1 d2 : TypeDesc} (h : fn.results = #[.cell t1 ty1, .cell t2 ty2]) (hv1 : S.tmp t1 = some (.p n1 0)) (hr1 : S.res n1 = some (.blk n1 T1 (.c A1) wr1)) (hv2 : S.tmp t2 = some (.p n2 0)) (hr2 : S.res n2 = some (.blk n2 T2 (.c A2) wr2))
    (hu1 : tabLook undT ty1 = some d1) (hda1 : d1.isRow = true) (hi1 : tabLook sizT ty1 = some m1) (hm1 : A1.size = m1) (hu2 : tabLook undT ty2 = some d2) (hda2 : d2.isRow = true) (hi2 : tabLook sizT ty2 = some m2) (hm2 : A2.size = m2) :
    ∀ e a w, Holds C S e a w → (results fn a.tmps).run Try.prog w = .ok ((SV.c (.tuple #[.agg A1, .agg A2])).den e) w := fun e a w hS => by
  have hu1 := tabAll_look undT_ok hu1
  have hi1 := tabAll_look sizT_ok hi1
  have hu2 := tabAll_look undT_ok hu2
  have hi2 := tabAll_look sizT_ok hi2
  obtain ⟨fr1, hb1, _⟩ := res_blk hS hr1
  obtain ⟨fr2, hb2, _⟩ := res_blk hS hr2
  have hp1 : a.tmps.getD t1 undef = .pointer (some ⟨(e n1).b, 0, none⟩) := getD_of (hS.tmp t1 _ hv1)
  have hp2 : a.tmps.getD t2 undef = .pointer (some ⟨(e n2).b, 0, none⟩) := getD_of (hS.tmp t2 _ hv2)
  have hp1' : a.tmps[t1]?.getD undef = .pointer (some ⟨(e n1).b, 0, none⟩) := by simpa using hp1
  have hp2' : a.tmps[t2]?.getD undef = .pointer (some ⟨(e n2).b, 0, none⟩) := by simpa using hp2
  have k1 := run_loadVar_row (P := Try.prog) w (e n1).b T1 ty1 A1 fr1 d1 hb1 hu1 (by cases d1 <;> simp_all) (by rw [hi1, hm1])
  have k2 := run_loadVar_row (P := Try.prog) w (e n2).b T2 ty2 A2 fr2 d2 hb2 hu2 (by cases d2 <;> simp_all) (by rw [hi2, hm2])
  simp [results, h, hp1', hp2', asAddr, k1, k2]
  rfl
theorem op_ext0 {x : Operand} {a b : Value} (ho : o.op = .extract x 0) (hg : o.guard = none) (hd : dstB o.dst C.nt = true) (hx : S.ev x = some (.c (.tuple #[a, b]))) : OpG C Try.prog ops o S ⟨opT x, [], dw o.dst (.c a), [], []⟩ := op_extractC ho hg hd hx rfl
theorem op_ext1 {x : Operand} {a b : Value} (ho : o.op = .extract x 1) (hg : o.guard = none) (hd : dstB o.dst C.nt = true) (hx : S.ev x = some (.c (.tuple #[a, b]))) : OpG C Try.prog ops o S ⟨opT x, [], dw o.dst (.c b), [], []⟩ := op_extractC ho hg hd hx rfl
end Go.Proofs.Ytmpnkknocfaciaa
namespace Go.Proofs.Ytmpnkknocfaciaa
open Go.RowKit
set_option maxRecDepth 100000
variable {C : Ctx} {ops : Array Oper} {S : St} {o : Oper}
end Go.Proofs.Ytmpnkknocfaciaa
namespace Go.Proofs.Ytmpnkknocfaciaa
open Go.RowKit
set_option maxRecDepth 100000
section
variable {C : Ctx} {ops : Array Oper} {S : St} {o : Oper}
section
variable {l : List Oper} {t : List (Nat × SV)} {h : List (Nat × Option Res)} {d : Nat} {f j : FuncId} {xs : Array Operand} {ats : Array TypeId} {vs : List SV}
end
section
variable {dst : Option Tmp} {x y : Operand} {ats : Array TypeId} {ty : TypeId} {pos : String} {after : Array Edge} {k : IntKind} {m : Nat} {a b : BitVec m}
end
end
end Go.Proofs.Ytmpnkknocfaciaa
namespace Go.Proofs.Ytmpnkknocfaciaa
open Go.RowKit
set_option maxRecDepth 100000
variable {C : Ctx} {ops : Array Oper} {S : St} {o : Oper}
/-- A whole row, read out of an own slice. -/
theorem op_loadsV {ty : TypeId} {x : Operand} {n off len sz m : Nat} {T0 : TypeId} {xs : List Value} {B : List Value} {d : TypeDesc} (ho : o.op = .load ty x) (hg : o.guard = none) (hd : dstB o.dst C.nt = true) (hx : S.ev x = some (.vp n off)) (hr : S.res n = some (.own n T0 sz len xs)) (hu' : tabLook undT ty = some d) (hda : d.isRow = true) (hi' : tabLook sizT ty = some m) (hm : 0 < m) (hb : off + m ≤ xs.length) (hB : (xs.drop off).take m = B) :
    OpG C Try.prog ops o S ⟨opT x, [n], dw o.dst (.c (.agg B.toArray)), [], []⟩ := by
  have hu := tabAll_look undT_ok hu'
  have hi := tabAll_look sizT_ok hi'
  have hBl : B.length = m := by rw [← hB, List.length_take, List.length_drop]; omega
  have := op_value (C := C) (P := Try.prog) (ops := ops) (S := S) hg hd [x] [n] (.c (.agg B.toArray)) fun S' e a w hS h1 h2 => by
    have hev : a.eval x = (SV.vp n off).den e := hS.ev ((h1 x (by simp)).trans hx)
    have hok : w.ownsRow 0 T0 sz (e n).v len xs := hS.res n _ ((h2 n (by simp)).trans hr)
    rcases hok.2 with ⟨h3, h4⟩ | ⟨g, cap, cur, h4, _⟩
    · have h5 := hok.1
      rw [h4, Nat.zero_mul] at h5
      omega
    · have hden : (SV.vp n off).den e = .pointer (some ⟨g, off, none⟩) := by simp only [SV.vp, h4]
      have hra : w.rangeAt g off B := fun j u hj => by
        have hjl : j < m := by have := (List.getElem?_eq_some_iff.1 hj).1; omega
        rw [← hB, List.getElem?_take, if_pos hjl, List.getElem?_drop] at hj
        have := hok.cells (g := g) (by rw [h4]; rfl) (off + j) u hj
        rwa [add_place, Nat.zero_add] at this
      have hl := run_loadVar_mid (P := Try.prog) w g off ty B d hra hu hda (by rw [hi, hBl])
      rw [hden] at hev
      simp [execOp, ho, hev, Instr.loadAt, Instr.sureAddr, Sem.run_bind, hl, SV.c]
  simpa using this
end Go.Proofs.Ytmpnkknocfaciaa
