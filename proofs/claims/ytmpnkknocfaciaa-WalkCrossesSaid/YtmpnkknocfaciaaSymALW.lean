/- Closures that hold places of the run's own; calls that are handed them. No condition. Slices of a few values and of rows; methods with a slice beside the object's own; rows read beside an object. No condition. -/
import Derived.Test.YtmpnkknocfaciaaSymVK
import Derived.Test.YtmpnkknocfaciaaSymSX
namespace Go.Proofs.Ytmpnkknocfaciaa
open Go.RowKit
set_option maxRecDepth 100000
set_option maxHeartbeats 1000000
/-- A closure: its function, what it holds. -/
def SV.clo (f : FuncId) (l : List SV) : SV := ⟨8, fun e => .func (.func f) #[] (l.map (·.den e)).toArray, l.flatMap (·.sup), fun e e' h => by rw [dens_ind l e e' h]⟩
variable {C : Ctx} {ops : Array Oper} {S : St} {o : Oper}
theorem op_makeFn {f : FuncId} {xs : Array Operand} {vs : List SV} (ho : o.op = .makeFunc (.func f) #[] xs) (hg : o.guard = none) (hd : dstB o.dst C.nt = true) (hxs : EvS S xs.toList vs) :
    OpG C Try.prog ops o S ⟨xs.toList.flatMap opT, (SV.clo f vs).sup, dw o.dst (.clo f vs), [], []⟩ := by
  refine op_value hg hd xs.toList (SV.clo f vs).sup (.clo f vs) fun S' e a w hS h1 _ => ?_
  have hev : xs.toList.map S'.ev = vs.map some := by
    rw [← show xs.toList.map S.ev = vs.map some from hxs]
    exact List.map_congr_left fun x hx => h1 x hx
  have hargs : xs.map a.eval = (vs.map (·.den e)).toArray := by
    rw [← evs_all hS _ _ hev, ← Array.toList_map, Array.toArray_toList]
  simp only [execOp, ho, Instr.makeFunc, hargs, Sem.run_bind, Sem.run_pure, Result.andThen_ok, List.map_toArray]
  rfl
/-- A call that is handed a slice of the block, and more. -/
theorem op_callWE {f : FuncId} {xs : Array Operand} {ats : Array TypeId} {vs : List SV} {j b : Nat} {T : TypeId} {cells0 cells : Array Value} {v : Value} (rb : List Nat) (ho : o.op = .call { callee := .value (.func f), args := xs, argTypes := ats }) (hg : o.guard = none) (hd : dstB o.dst C.nt = true) (hxs : EvS S xs.toList vs) (hc' : tabLook calT f = some j) (hr : S.res 1000 = some (.blk 1000 T (.c cells0))) (hi : S.res 1001 = some (.is 1000 b))
    (hcon : ∀ (S' : St) e a w, Holds C S' e a w → (e 1000).b = b → (∀ q ∈ 1000 :: rb, S'.res q = S.res q) → Blk w b cells0 T → Calls Try.prog j (vs.map (·.den e)).toArray w (RetP w b T cells v)) :
    OpG C Try.prog ops o S ⟨xs.toList.flatMap opT, 1000 :: 1001 :: rb, dw o.dst (.c v), [(1000, some (.blk 1000 T (.c cells)))], []⟩ := by
  refine opG_mk hg fun S' h1 h2 h3 e a w hS => ?_
  unfold Oper.wp
  have hr' := (h2 1000 (by simp)).trans hr
  have hbb : (e 1000).b = b := hS.res 1001 _ ((h2 1001 (by simp)).trans hi)
  obtain ⟨fr, hb, hfr⟩ := res_blk hS hr'
  rw [hfr rfl, hbb] at hb
  rw [call_hop ho hxs hc' h1 hS]
  refine Calls.mono (hcon S' e a w hS hbb (fun q hq => h2 q (by rcases List.mem_cons.1 hq with rfl | hq; simp; simp [hq])) hb) ?_
  rintro r w' ⟨rfl, hb2, hx⟩
  have hH := hS.writeX (A' := .c cells) hr' (by rw [hbb]; exact hx) (by rw [hbb]; exact hb2)
  exact ⟨e, hH.put hd (.c v)⟩
theorem blk_of {e : Env} {a : Act} {w : World} {S' : St} (hS : Holds C S' e a w) {n : Nat} {T : TypeId} {A : SA} (hr : S'.res n = some (.blk n T A)) : Blk w (e n).b (A.den e) T := by
  obtain ⟨fr, hb, hfr⟩ := res_blk hS hr
  rw [hfr rfl] at hb
  exact hb
theorem blk_ne {e : Env} {a : Act} {w : World} {S' : St} (hS : Holds C S' e a w) {n m : Nat} {T T' : TypeId} {A A' : SA} (hr : S'.res n = some (.blk n T A)) (hm : S'.res m = some (.blk m T' A')) (hne : Nat.beq n m = false) : (e n).b ≠ (e m).b := fun h =>
  hS.sep n m _ _ hr hm (fun he => by subst he; simp at hne) rfl (e n).b rfl h
theorem rdn_segI {b N cap : Nat} {pre post : List Value} {T : TypeId} {l : List Nat} (hr : S.res 1000 = some (.blk 1000 T (.c (segA pre post l)))) (hi : S.res 1001 = some (.is 1000 b)) (hl : N = l.length) : RdN C S [1000, 1001] 1 (.c (.slice (some ⟨b, pre.length, none⟩) N cap)) N (l.map intV) := by
  intro S' e a w h hS
  have hbb : (e 1000).b = b := hS.res 1001 _ ((h 1001 (by simp)).trans hi)
  obtain ⟨fr, hb, _⟩ := res_blk hS ((h 1000 (by simp)).trans hr)
  rw [hbb] at hb
  refine ⟨by rw [List.length_map, hl, Nat.mul_one], _, cap, rfl, .inr ⟨b, pre.length, rfl, fun j u hu => ?_⟩⟩
  rw [cell_of_row w _ _ _ _ _ hb]
  have hj : j < l.length := by have := (List.getElem?_eq_some_iff.1 hu).1; simpa using this
  have := segA_get (pre := pre) (post := post) hj
  rw [Nat.mul_one] at this
  refine (show (segA pre post l)[pre.length + j]? = _ from this).trans ?_
  rw [← hu, List.getElem?_map, List.getElem?_eq_getElem hj]
  simp [intV, gtN, List.getD, List.getElem?_eq_getElem hj]
end Go.Proofs.Ytmpnkknocfaciaa
namespace Go.Proofs.Ytmpnkknocfaciaa
open Go.RowKit
set_option maxRecDepth 100000
set_option maxHeartbeats 1000000
section
variable {C : Ctx} {ops : Array Oper} {S : St} {o : Oper}
theorem rdn_cells {n size : Nat} {T : TypeId} {wr : Bool} {k cap : Nat} {a : Array Value} (us : List Value) (hr : S.res n = some (.blk n T (.c a) wr)) (ha : a.toList = us) (hk : us.length = k * size) : RdN C S [n] size (.s n 0 k cap) k us := by
  subst ha
  intro S' e aa w h hS
  obtain ⟨fr, hb, _⟩ := res_blk hS ((h n (by simp)).trans hr)
  refine ⟨hk, some ⟨(e n).b, 0, none⟩, cap, rfl, .inr ⟨(e n).b, 0, rfl, fun j u hu => ?_⟩⟩
  rw [cell_of_row w _ _ _ _ _ hb, Nat.zero_add]
  simpa [SA.c] using hu
theorem op_loadsX {ty : TypeId} {x : Operand} {v : Value} {n off sz m : Nat} {xs : List Value} {B : List Value} {d : TypeDesc} (ho : o.op = .load ty x) (hg : o.guard = none) (hd : dstB o.dst C.nt = true) (hx : S.ev x = some (.c (ptrV v off))) (hf : RdX C.w0 C.m sz v n xs) (hu' : tabLook undT ty = some d) (hda : d.isRow = true) (hi' : tabLook sizT ty = some m) (hm : 0 < m) (hb : off + m ≤ xs.length) (hB : (xs.drop off).take m = B) :
    OpG C Try.prog ops o S ⟨opT x, [], dw o.dst (.c (.agg B.toArray)), [], []⟩ := by
  have hu := tabAll_look undT_ok hu'
  have hi := tabAll_look sizT_ok hi'
  have hBl : B.length = m := by rw [← hB, List.length_take, List.length_drop]; omega
  have := op_value (C := C) (P := Try.prog) (ops := ops) (S := S) hg hd [x] [] (.c (.agg B.toArray)) fun S' e a w hS h1 h2 => by
    have hev : a.eval x = ptrV v off := hS.ev ((h1 x (by simp)).trans hx)
    obtain ⟨hl, ad, c, rfl, hr⟩ := hf w hS.frame.belowX
    rcases hr with h3 | ⟨b, o2, rfl, hr⟩
    · subst h3; omega
    · have hra : w.rangeAt b (o2 + off) B := fun j u hj => by
        have hjl : j < m := by have := (List.getElem?_eq_some_iff.1 hj).1; omega
        rw [← hB, List.getElem?_take, if_pos hjl, List.getElem?_drop] at hj
        have hc := hr (off + j) u hj
        rw [Nat.add_assoc]
        exact hc
      have hl := run_loadVar_mid (P := Try.prog) w b (o2 + off) ty B d hra hu hda (by rw [hi, hBl])
      have hev : a.eval x = .pointer (some ⟨b, o2 + off, none⟩) := hev
      simp [execOp, ho, hev, Instr.loadAt, Instr.sureAddr, Sem.run_bind, hl, SV.c]
  simpa using this
end
end Go.Proofs.Ytmpnkknocfaciaa
