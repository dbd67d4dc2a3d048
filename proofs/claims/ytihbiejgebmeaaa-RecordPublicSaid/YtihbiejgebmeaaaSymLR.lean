/- Strings; conversions of slices; rows of a few bytes. No condition. A slice that was built is an own one. No condition. Two rows handed back; a slice and a slice of slices handed over. No condition. A string as new bytes. No condition. A slice of its own and a value, handed back together; the lesser of two bytes. No condition. A row out of a slice. No condition. -/
import Derived.Test.YtihbiejgebmeaaaSymHK
import Derived.Laws.Strings2
import Derived.Laws.Concat
import Derived.Laws.IdiomStrings
namespace Go.Proofs.Ytihbiejgebmeaaa
open Go.RowKit
set_option maxRecDepth 100000
variable {C : Ctx} {ops : Array Oper} {S : St} {o : Oper}
section
variable {x y : Operand} {t T ty yt : TypeId} {s s' : ByteArray} {l l' : List (BitVec 8)}
end
theorem valsL_setz {k : IntKind} {m : Nat} {l : List (BitVec m)} {i : Nat} {z : Int} (hz : (decide (0 ≤ z) && decide (z < 2 ^ m)) = true) : (valsL k l).set i (.int k z) = valsL k (l.set i (BitVec.ofInt m z)) := by
  rw [← valsL_set, ← litb m z hz]
/-! ### a few bytes in a block -/
def LitL (k : IntKind) {m : Nat} : List SV → List (BitVec m) → Prop
  | [], [] => True
  | v :: vs, x :: l => (∀ e, v.den e = .int k (bvi x)) ∧ LitL k vs l
  | _, _ => False
theorem litl_nil {k : IntKind} {m : Nat} : LitL k ([] : List SV) ([] : List (BitVec m)) := trivial
theorem litl_bv {k : IntKind} {m : Nat} {x : BitVec m} {vs : List SV} {l : List (BitVec m)} (h : LitL k vs l) : LitL k (SV.c (.int k (bvi x)) :: vs) (x :: l) := ⟨fun _ => rfl, h⟩
theorem litl_z {k : IntKind} {m : Nat} {z : Int} {vs : List SV} {l : List (BitVec m)} (hz : (decide (0 ≤ z) && decide (z < 2 ^ m)) = true) (h : LitL k vs l) : LitL k (SV.c (.int k z) :: vs) (BitVec.ofInt m z :: l) := ⟨fun _ => by rw [← litb m z hz]; rfl, h⟩
theorem litl_map {k : IntKind} {m : Nat} (e : Env) : ∀ {vs : List SV} {l : List (BitVec m)}, LitL k vs l → vs.map (·.den e) = valsL k l
  | [], [], _ => rfl
  | v :: vs, x :: l, h => by
    have := litl_map e h.2
    simp only [List.map_cons, h.1 e, this]
    rfl
theorem rdn_lit {n : Nat} {T : TypeId} {wr : Bool} {k : IntKind} {m : Nat} {vs : List SV} {l : List (BitVec m)} {len cap : Nat} (hr : S.res n = some (.blk n T (.l vs) wr)) (hl : LitL k vs l) (hc : l.length = len) : RdN C S [n] 1 (.s n 0 len cap) len (valsL k l) := by
  subst hc
  intro S' e a w h hS
  obtain ⟨fr, hb, _⟩ := res_blk hS ((h n (by simp)).trans hr)
  refine ⟨by rw [valsL_length]; omega, some ⟨(e n).b, 0, none⟩, cap, rfl, .inr ⟨(e n).b, 0, rfl, fun j u hu => ?_⟩⟩
  rw [cell_of_row w _ _ _ _ _ hb, Nat.zero_add]
  have := litl_map e hl
  simp only [SA.l, this]
  simpa using hu
theorem fsq_lit {n : Nat} {T : TypeId} {wr : Bool} {vs : List SV} {l : List (BitVec 8)} {len cap : Nat} (hr : S.res n = some (.blk n T (.l vs) wr)) (hl : LitL .u8 vs l) (hc : l.length = len) (hcap : len ≤ cap) : FSQ C S [n] (.s n 0 len cap) l := fun S' e a w hq hS => by
  subst hc
  exact ⟨rdn_lit hr hl rfl S' e a w hq hS, _, _, rfl, hcap⟩
/-! ### a slice, converted to its own type -/
end Go.Proofs.Ytihbiejgebmeaaa
namespace Go.Proofs.Ytihbiejgebmeaaa
open Go.RowKit
set_option maxRecDepth 100000
variable {C : Ctx} {ops : Array Oper} {S : St} {o : Oper}
/-! ### guards whose operation did not run -/
section
variable {P : Program} {dst : Option Tmp} {op : Op} {ty : TypeId} {pos : String} {after : Array Edge} {j : Nat} {want : Bool} {g d : Nat} {l : List Oper} {t : List (Nat × SV)} {h : List (Nat × Option Res)}
end
end Go.Proofs.Ytihbiejgebmeaaa
namespace Go.Proofs.Ytihbiejgebmeaaa
open Go.RowKit
set_option maxRecDepth 100000
variable {C : Ctx} {ops : Array Oper} {S : St} {o : Oper}
theorem op_ext0 {x : Operand} {a b : Value} (ho : o.op = .extract x 0) (hg : o.guard = none) (hd : dstB o.dst C.nt = true) (hx : S.ev x = some (.c (.tuple #[a, b]))) : OpG C Try.prog ops o S ⟨opT x, [], dw o.dst (.c a), [], []⟩ := op_extractC ho hg hd hx rfl
theorem op_ext1 {x : Operand} {a b : Value} (ho : o.op = .extract x 1) (hg : o.guard = none) (hd : dstB o.dst C.nt = true) (hx : S.ev x = some (.c (.tuple #[a, b]))) : OpG C Try.prog ops o S ⟨opT x, [], dw o.dst (.c b), [], []⟩ := op_extractC ho hg hd hx rfl
end Go.Proofs.Ytihbiejgebmeaaa
namespace Go.Proofs.Ytihbiejgebmeaaa
open Go.RowKit
set_option maxRecDepth 100000
variable {C : Ctx} {ops : Array Oper} {S : St} {o : Oper}
/-- A slice of a block, whose room nobody knows. -/
def SV.sc (n len : Nat) : SV := ⟨9, fun e => .slice (some ⟨(e n).b, 0, none⟩) len (e n).c, [n], fun e e' h => by simp only [h n (by simp)]⟩
end Go.Proofs.Ytihbiejgebmeaaa
namespace Go.Proofs.Ytihbiejgebmeaaa
open Go.RowKit
set_option maxRecDepth 100000
/-- Handed back: a new slice of these cells, and a value. -/
def RetOT (w : World) (T size len : Nat) (xs : List Value) (u : Value) : Ending → World → Prop := fun r w' => ∃ v, r = .returned (.tuple #[v, u]) ∧ w'.ownsRow w.heap.size T size v len xs ∧ Below w.heap.size w w'
section
variable {C : Ctx} {ops : Array Oper} {S : St} {o : Oper}
theorem fin_ownT {n nt T size len : Nat} {xs : List Value} {w0 : World} {u : Value} (hr : S.res n = some (.own n T size len xs)) : ∀ e a w, Holds ⟨nt, w0, []⟩ S e a w → RetOT w0 T size len xs u (.returned ((SV.tup [.v n, .c u]).den e)) w := fun e a w hS => by
  obtain ⟨v, h1, h2, h3⟩ := fin_own hr e a w hS
  have hv : v = (e n).v := by cases h1; rfl
  subst hv
  exact ⟨(e n).v, rfl, h2, h3⟩
def CallOT (C : Ctx) (S : St) (rb : List Nat) (j : FuncId) (vs : List SV) (T size len : Nat) (xs : List Value) (u : Value) : Prop := ∀ (S' : St) e a w, Holds C S' e a w → (∀ q ∈ rb, S'.res q = S.res q) → Calls Try.prog j (vs.map (·.den e)).toArray w (RetOT w T size len xs u)
theorem callOT_0 {j : FuncId} {vs : List SV} {T size len : Nat} {xs : List Value} {u : Value} (h : ∀ (e : Env) w, Calls Try.prog j (vs.map (·.den e)).toArray w (RetOT w T size len xs u)) : CallOT C S [] j vs T size len xs u := fun _ e _ w _ _ => h e w
theorem op_callOT {f : FuncId} {xs : Array Operand} {ats : Array TypeId} {vs : List SV} {rb : List Nat} {j n T size len : Nat} {ys : List Value} {u : Value} (ho : o.op = .call { callee := .value (.func f), args := xs, argTypes := ats }) (hdn : o.dst = some n) (hg : o.guard = none) (hd : dstB o.dst C.nt = true) (hxs : EvS S xs.toList vs) (hc' : tabLook calT f = some j) (hcon : CallOT C S rb j vs T size len ys u) :
    OpG C Try.prog ops o S ⟨xs.toList.flatMap opT, rb, [(n, .tup [.v n, .c u])], [(n, some (.own n T size len ys))], [n]⟩ := by
  refine opG_mk hg fun S' h1 h2 h3 e a w hS => ?_
  unfold Oper.wp
  rw [call_hop ho hxs hc' h1 hS]
  refine Calls.mono (hcon S' e a w hS h2) ?_
  rintro r w' ⟨v, rfl, hown, hb⟩
  have := (hS.ownNew (n := n) (h3 n (by simp)) hb hown).put hd (.tup [.v n, .c u])
  have hden : (SV.tup [.v n, .c u]).den (e.set n ⟨0, 0, v⟩) = .tuple #[v, u] := by
    show Value.tuple ([SV.v n, SV.c u].map (·.den (e.set n ⟨0, 0, v⟩))).toArray = _
    simp only [List.map_cons, List.map_nil, SV.v, SV.c, Env.set_self]
  rw [hden] at this
  rw [hdn] at this ⊢
  exact ⟨_, this⟩
section
variable {l : List Oper} {t : List (Nat × SV)} {h : List (Nat × Option Res)} {d : Nat} {f j : FuncId} {xs : Array Operand} {ats : Array TypeId} {vs : List SV}
theorem walk1_callOT {K : St → Prop} (ho : o.op = .call { callee := .value (.func f), args := xs, argTypes := ats }) (hdn : o.dst = some d) (hg : o.guard = none) (hd : dstB o.dst C.nt = true) (hf : freshB ⟨t, h⟩ d = true) (hxs : EvS ⟨t, h⟩ xs.toList vs) (hc' : tabLook calT f = some j)
    (hK : ∃ rb T size len ys u, CallOT C ⟨t, h⟩ rb j vs T size len ys u ∧ Walk1 C Try.prog ops l ⟨(d, .tup [.v d, .c u]) :: t, (d, some (.own d T size len ys)) :: h⟩ K) : Walk1 C Try.prog ops (o :: l) ⟨t, h⟩ K := by
  obtain ⟨rb, T, size, len, ys, u, h1, h2⟩ := hK
  exact walk1_n (op_callOT (C := C) (ops := ops) ho hdn hg hd hxs hc' h1) hf h2
theorem walk_callOT {x : List Nat} {acc : List OS} {K : St → List OS → Prop} (ho : o.op = .call { callee := .value (.func f), args := xs, argTypes := ats }) (hdn : o.dst = some d) (hg : o.guard = none) (hd : dstB o.dst C.nt = true) (hf : freshB ⟨t, h⟩ d = true) (hxs : EvS ⟨t, h⟩ xs.toList vs) (hc' : tabLook calT f = some j)
    (hK : ∃ rb T size len ys u, CallOT C ⟨t, h⟩ rb j vs T size len ys u ∧ WalkTo C Try.prog ops [] l ⟨(d, .tup [.v d, .c u]) :: t, (d, some (.own d T size len ys)) :: h⟩ (⟨x ++ xs.toList.flatMap opT, rb, [(d, .tup [.v d, .c u])], [(d, some (.own d T size len ys))], [d]⟩ :: acc) K) : WalkTo C Try.prog ops x (o :: l) ⟨t, h⟩ acc K := by
  obtain ⟨rb, T, size, len, ys, u, h1, h2⟩ := hK
  exact walk_n (op_callOT (C := C) (ops := ops) ho hdn hg hd hxs hc' h1) hf h2
end
section
variable {dst : Option Tmp} {x y : Operand} {ats : Array TypeId} {ty : TypeId} {pos : String} {after : Array Edge} {k : IntKind} {m : Nat} {a b : BitVec m}
end
end
end Go.Proofs.Ytihbiejgebmeaaa
namespace Go.Proofs.Ytihbiejgebmeaaa
open Go.RowKit
set_option maxRecDepth 100000
variable {C : Ctx} {ops : Array Oper} {S : St} {o : Oper}
end Go.Proofs.Ytihbiejgebmeaaa
