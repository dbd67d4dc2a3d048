/- Shifts of whole numbers by nothing. No condition. -/
import Derived.Test.YtgjlpnendljcaaaSymU
import Derived.Laws.Cover3
namespace Go.Proofs.Ytgjlpnendljcaaa
open Go.RowKit
set_option maxRecDepth 100000
variable {C : Ctx} {ops : Array Oper} {S : St} {o : Oper}
theorem op_shl0 {ty yt : TypeId} {x y : Operand} {z : Int} {b : Nat} (ho : o.op = .binOp .shl ty x y yt) (hg : o.guard = none) (hd : dstB o.dst C.nt = true) (hx : S.ev x = some (.c (.int .i64 z))) (hy : EvK S y b) (hb : b = 0) (hz : -9223372036854775808 ≤ z ∧ z < 9223372036854775808) : OpG C Try.prog ops o S ⟨opT x ++ opT y, [], dw o.dst (.c (.int .i64 z)), [], []⟩ := by
  subst hb
  obtain ⟨k, hy⟩ := hy
  refine op_int2 ho hg hd hx hy fun w => ?_
  rw [run_shift.1, Nat.zero_min, Int.pow_zero, Int.mul_one, wrapI hz]
theorem op_shr0 {ty yt : TypeId} {x y : Operand} {z : Int} {b : Nat} (ho : o.op = .binOp .shr ty x y yt) (hg : o.guard = none) (hd : dstB o.dst C.nt = true) (hx : S.ev x = some (.c (.int .i64 z))) (hy : EvK S y b) (hb : b = 0) : OpG C Try.prog ops o S ⟨opT x ++ opT y, [], dw o.dst (.c (.int .i64 z)), [], []⟩ := by
  subst hb
  obtain ⟨k, hy⟩ := hy
  refine op_int2 ho hg hd hx hy fun w => ?_
  rw [run_shift.2, Nat.zero_min, Int.pow_zero, Int.fdiv_one]
theorem op_eqNilG {x y : Operand} {ty yt e0 : TypeId} {len cap : Nat} (hu' : tabLook undT ty = some (.slice e0)) (ho : o.op = .binOp .eql ty x y yt) (hg : o.guard = none) (hd : dstB o.dst C.nt = true) (hx : S.ev x = some (.c (.slice none len cap))) (hy : S.ev y = some (.c (.slice none 0 0))) : OpG C Try.prog ops o S ⟨opT x ++ opT y, [], dw o.dst (.c (.bool true)), [], []⟩ :=
  op_two (v := .c (.bool true)) hg hd hx hy fun e ρ w h1 h2 => by
    have h1' : ρ x = .slice none len cap := h1
    have h2' : ρ y = .slice none 0 0 := h2
    have hu := tabAll_look undT_ok hu'
    simp [execOp, ho, h1', h2', binOp, eqGuard, SV.c, run_equal_slice_nil w ty e0 _ _ _ hu]
/-! ### a slice of its own and a value handed back, slices handed over -/
theorem callOT_1 {j : FuncId} {vs : List SV} {T size len : Nat} {xs : List Value} {u : Value} {ns1 : List Nat} {s1 n1 : Nat} {v1 : SV} {x1 : List Value} (h1 : RdN C S ns1 s1 v1 n1 x1) (h : ∀ (e : Env) w, RdV w s1 (v1.den e) n1 x1 → Calls Try.prog j (vs.map (·.den e)).toArray w (RetOT w T size len xs u)) : CallOT C S ns1 j vs T size len xs u := fun S' e a w hS hq => h e w (h1 S' e a w hq hS)
theorem callOT_2 {j : FuncId} {vs : List SV} {T size len : Nat} {xs : List Value} {u : Value} {ns1 ns2 : List Nat} {s1 n1 s2 n2 : Nat} {v1 v2 : SV} {x1 x2 : List Value} (h1 : RdN C S ns1 s1 v1 n1 x1) (h2 : RdN C S ns2 s2 v2 n2 x2) (h : ∀ (e : Env) w, RdV w s1 (v1.den e) n1 x1 → RdV w s2 (v2.den e) n2 x2 → Calls Try.prog j (vs.map (·.den e)).toArray w (RetOT w T size len xs u)) : CallOT C S (ns1 ++ ns2) j vs T size len xs u := fun S' e a w hS hq =>
  h e w (h1 S' e a w (fun q hq' => hq q (List.mem_append_left _ hq')) hS) (h2 S' e a w (fun q hq' => hq q (List.mem_append_right _ hq')) hS)
end Go.Proofs.Ytgjlpnendljcaaa
