/- A row out of a slice. No condition. -/
import Derived.Test.YtgjlpnendljcaaaSymQ
namespace Go.Proofs.Ytgjlpnendljcaaa
open Go.RowKit
set_option maxRecDepth 100000
variable {C : Ctx} {ops : Array Oper} {S : St} {o : Oper}
/-- A whole row, read out of an own slice. -/
theorem op_loadsV {ty : TypeId} {x : Operand} {n off len sz m : Nat} {T0 : TypeId} {xs : List Value} {B : List Value} {d : TypeDesc} (ho : o.op = .load ty x) (hg : o.guard = none) (hd : dstB o.dst C.nt = true) (hx : S.ev x = some (.vp n off)) (hr : S.res n = some (.own n T0 sz len xs)) (hu' : tabLook undT ty = some d) (hda : d.isRow = true) (hi' : tabLook sizT ty = some m) (hm : 0 < m) (hb : off + m ≤ xs.length) (hB : (xs.drop off).take m = B) :
    OpG C Try.prog ops o S ⟨opT x, [n], dw o.dst (.c (.agg B.toArray)), [], []⟩ := by
  have hu := tabAll_look undT_ok hu'
  have hi := tabAll_look sizT_ok hi'
  have hBl : B.length = m := by rw [← hB, List.length_take, List.length_drop]; omega
  have := op_value (C := C) (P := Try.prog) (ops := ops) (S := S) hg hd [x] [n] (.c (.agg B.toArray)) fun S' e a w hS h1 h2 => by
    have hev : a.eval x = (SV.vp n off).den e := hS.ev ((h1 x (by simp)).trans hx)
    have hok : w.ownsRow 0 T0 sz (e n).v len xs := hS.res n _ ((h2 n (by simp)).trans hr)
    rcases hok.2 with ⟨h3, h4⟩ | ⟨g, cap, cur, h4, _⟩
    · have h5 := hok.1
      rw [h4, Nat.zero_mul] at h5
      omega
    · have hden : (SV.vp n off).den e = .pointer (some ⟨g, off, none⟩) := by simp only [SV.vp, h4]
      have hra : w.rangeAt g off B := fun j u hj => by
        have hjl : j < m := by have := (List.getElem?_eq_some_iff.1 hj).1; omega
        rw [← hB, List.getElem?_take, if_pos hjl, List.getElem?_drop] at hj
        have := hok.cells (g := g) (by rw [h4]; rfl) (off + j) u hj
        rwa [add_place, Nat.zero_add] at this
      have hl := run_loadVar_mid (P := Try.prog) w g off ty B d hra hu hda (by rw [hi, hBl])
      rw [hden] at hev
      simp [execOp, ho, hev, Instr.loadAt, Instr.sureAddr, Sem.run_bind, hl, SV.c]
  simpa using this
end Go.Proofs.Ytgjlpnendljcaaa
