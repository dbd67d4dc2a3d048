/- A slice of its own and a value, handed back together; the lesser of two bytes. No condition. -/
import Derived.Test.YtgjlpnendljcaaaSymO
namespace Go.Proofs.Ytgjlpnendljcaaa
open Go.RowKit
set_option maxRecDepth 100000
/-- Handed back: a new slice of these cells, and a value. -/
def RetOT (w : World) (T size len : Nat) (xs : List Value) (u : Value) : Ending → World → Prop := fun r w' => ∃ v, r = .returned (.tuple #[v, u]) ∧ w'.ownsRow w.heap.size T size v len xs ∧ Below w.heap.size w w'
section
variable {C : Ctx} {ops : Array Oper} {S : St} {o : Oper}
theorem fin_ownT {n nt T size len : Nat} {xs : List Value} {w0 : World} {u : Value} (hr : S.res n = some (.own n T size len xs)) : ∀ e a w, Holds ⟨nt, w0, []⟩ S e a w → RetOT w0 T size len xs u (.returned ((SV.tup [.v n, .c u]).den e)) w := fun e a w hS => by
  obtain ⟨v, h1, h2, h3⟩ := fin_own hr e a w hS
  have hv : v = (e n).v := by cases h1; rfl
  subst hv
  exact ⟨(e n).v, rfl, h2, h3⟩
def CallOT (C : Ctx) (S : St) (rb : List Nat) (j : FuncId) (vs : List SV) (T size len : Nat) (xs : List Value) (u : Value) : Prop := ∀ (S' : St) e a w, Holds C S' e a w → (∀ q ∈ rb, S'.res q = S.res q) → Calls Try.prog j (vs.map (·.den e)).toArray w (RetOT w T size len xs u)
theorem callOT_0 {j : FuncId} {vs : List SV} {T size len : Nat} {xs : List Value} {u : Value} (h : ∀ (e : Env) w, Calls Try.prog j (vs.map (·.den e)).toArray w (RetOT w T size len xs u)) : CallOT C S [] j vs T size len xs u := fun _ e _ w _ _ => h e w
theorem callOT_f {j : FuncId} {vs : List SV} {T size len : Nat} {xs : List Value} {u : Value} {d : List (BitVec 8)} {ns1 : List Nat} {v1 : SV} (h1 : FSQ C S ns1 v1 d) (h : ∀ (e : Env) w, FS w 1 (v1.den e) d.length (valsL .u8 d) → Calls Try.prog j (vs.map (·.den e)).toArray w (RetOT w T size len xs u)) : CallOT C S ns1 j vs T size len xs u := fun S' e a w hS hq => h e w (h1 S' e a w hq hS)
theorem op_callOT {f : FuncId} {xs : Array Operand} {ats : Array TypeId} {vs : List SV} {rb : List Nat} {j n T size len : Nat} {ys : List Value} {u : Value} (ho : o.op = .call { callee := .value (.func f), args := xs, argTypes := ats }) (hdn : o.dst = some n) (hg : o.guard = none) (hd : dstB o.dst C.nt = true) (hxs : EvS S xs.toList vs) (hc' : tabLook calT f = some j) (hcon : CallOT C S rb j vs T size len ys u) :
    OpG C Try.prog ops o S ⟨xs.toList.flatMap opT, rb, [(n, .tup [.v n, .c u])], [(n, some (.own n T size len ys))], [n]⟩ := by
  refine opG_mk hg fun S' h1 h2 h3 e a w hS => ?_
  unfold Oper.wp
  rw [call_hop ho hxs hc' h1 hS]
  refine Calls.mono (hcon S' e a w hS h2) ?_
  rintro r w' ⟨v, rfl, hown, hb⟩
  have := (hS.ownNew (n := n) (h3 n (by simp)) hb hown).put hd (.tup [.v n, .c u])
  have hden : (SV.tup [.v n, .c u]).den (e.set n ⟨0, 0, v⟩) = .tuple #[v, u] := by
    show Value.tuple ([SV.v n, SV.c u].map (·.den (e.set n ⟨0, 0, v⟩))).toArray = _
    simp only [List.map_cons, List.map_nil, SV.v, SV.c, Env.set_self]
  rw [hden] at this
  rw [hdn] at this ⊢
  exact ⟨_, this⟩
section
variable {l : List Oper} {t : List (Nat × SV)} {h : List (Nat × Option Res)} {d : Nat} {f j : FuncId} {xs : Array Operand} {ats : Array TypeId} {vs : List SV}
theorem walk1_callOT {K : St → Prop} (ho : o.op = .call { callee := .value (.func f), args := xs, argTypes := ats }) (hdn : o.dst = some d) (hg : o.guard = none) (hd : dstB o.dst C.nt = true) (hf : freshB ⟨t, h⟩ d = true) (hxs : EvS ⟨t, h⟩ xs.toList vs) (hc' : tabLook calT f = some j)
    (hK : ∃ rb T size len ys u, CallOT C ⟨t, h⟩ rb j vs T size len ys u ∧ Walk1 C Try.prog ops l ⟨(d, .tup [.v d, .c u]) :: t, (d, some (.own d T size len ys)) :: h⟩ K) : Walk1 C Try.prog ops (o :: l) ⟨t, h⟩ K := by
  obtain ⟨rb, T, size, len, ys, u, h1, h2⟩ := hK
  exact walk1_n (op_callOT (C := C) (ops := ops) ho hdn hg hd hxs hc' h1) hf h2
theorem walk_callOT {x : List Nat} {acc : List OS} {K : St → List OS → Prop} (ho : o.op = .call { callee := .value (.func f), args := xs, argTypes := ats }) (hdn : o.dst = some d) (hg : o.guard = none) (hd : dstB o.dst C.nt = true) (hf : freshB ⟨t, h⟩ d = true) (hxs : EvS ⟨t, h⟩ xs.toList vs) (hc' : tabLook calT f = some j)
    (hK : ∃ rb T size len ys u, CallOT C ⟨t, h⟩ rb j vs T size len ys u ∧ WalkTo C Try.prog ops [] l ⟨(d, .tup [.v d, .c u]) :: t, (d, some (.own d T size len ys)) :: h⟩ (⟨x ++ xs.toList.flatMap opT, rb, [(d, .tup [.v d, .c u])], [(d, some (.own d T size len ys))], [d]⟩ :: acc) K) : WalkTo C Try.prog ops x (o :: l) ⟨t, h⟩ acc K := by
  obtain ⟨rb, T, size, len, ys, u, h1, h2⟩ := hK
  exact walk_n (op_callOT (C := C) (ops := ops) ho hdn hg hd hxs hc' h1) hf h2
end
section
variable {dst : Option Tmp} {x y : Operand} {ats : Array TypeId} {ty : TypeId} {pos : String} {after : Array Edge} {k : IntKind} {m : Nat} {a b : BitVec m}
theorem op_minB (hd : dstB dst C.nt = true) (hx : EvB S x k a) (hy : EvB S y k b) : OpG C Try.prog ops ⟨dst, .call { callee := .builtin .min, args := #[x, y], argTypes := ats }, ty, pos, after, none⟩ S ⟨opT x ++ opT y, [], dw dst (.c (.int k (bvi (if b.toNat < a.toNat then b else a)))), [], []⟩ := by
  obtain ⟨za, hx, rfl⟩ := hx
  obtain ⟨zb, hy, rfl⟩ := hy
  refine op_two (v := .c (.int k (bvi (if b.toNat < a.toNat then b else a)))) rfl hd hx hy fun e ρ w h1 h2 => ?_
  rw [run_min h1 h2 w]
  have : (if bvi b < bvi a then bvi b else bvi a) = bvi (if b.toNat < a.toNat then b else a) := by
    unfold bvi
    by_cases h : b.toNat < a.toNat
    · rw [if_pos h, if_pos (by omega)]
    · rw [if_neg h, if_neg (by omega)]
  rw [this]
  rfl
theorem op_maxB (hd : dstB dst C.nt = true) (hx : EvB S x k a) (hy : EvB S y k b) : OpG C Try.prog ops ⟨dst, .call { callee := .builtin .max, args := #[x, y], argTypes := ats }, ty, pos, after, none⟩ S ⟨opT x ++ opT y, [], dw dst (.c (.int k (bvi (if a.toNat < b.toNat then b else a)))), [], []⟩ := by
  obtain ⟨za, hx, rfl⟩ := hx
  obtain ⟨zb, hy, rfl⟩ := hy
  refine op_two (v := .c (.int k (bvi (if a.toNat < b.toNat then b else a)))) rfl hd hx hy fun e ρ w h1 h2 => ?_
  rw [run_max h1 h2 w]
  have : (if bvi b > bvi a then bvi b else bvi a) = bvi (if a.toNat < b.toNat then b else a) := by
    unfold bvi
    by_cases h : a.toNat < b.toNat
    · rw [if_pos h, if_pos (by omega)]
    · rw [if_neg h, if_neg (by omega)]
  rw [this]
  rfl
end
end
end Go.Proofs.Ytgjlpnendljcaaa
