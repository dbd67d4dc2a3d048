/- Strings; conversions of slices; rows of a few bytes. No condition. A slice that was built is an own one. No condition. Two rows handed back; a slice and a slice of slices handed over. No condition. A string as new bytes. No condition. A slice of its own and a value, handed back together; the lesser of two bytes. No condition. A row out of a slice. No condition. -/
import Derived.Test.YtihbiejgebmeaaaSymHK
import Derived.Laws.Strings2
import Derived.Laws.Concat
import Derived.Laws.IdiomStrings
namespace Go.Proofs.Ytihbiejgebmeaaa
open Go.RowKit
set_option maxRecDepth 100000
variable {C : Ctx} {ops : Array Oper} {S : St} {o : Oper}
section
variable {x y : Operand} {t T ty yt : TypeId} {s s' : ByteArray} {l l' : List (BitVec 8)}
end
theorem valsL_setz {k : IntKind} {m : Nat} {l : List (BitVec m)} {i : Nat} {z : Int} (hz : (decide (0 ≤ z) && decide (z < 2 ^ m)) = true) : (valsL k l).set i (.int k z) = valsL k (l.set i (BitVec.ofInt m z)) := by
  rw [← valsL_set, ← litb m z hz]
/-! ### a few bytes in a block -/
def LitL (k : IntKind) {m : Nat} : List SV → List (BitVec m) → Prop
  | [], [] => True
  | v :: vs, x :: l => (∀ e, v.den e = .int k (bvi x)) ∧ LitL k vs l
  | _, _ => False
theorem litl_nil {k : IntKind} {m : Nat} : LitL k ([] : List SV) ([] : List (BitVec m)) := trivial
theorem litl_bv {k : IntKind} {m : Nat} {x : BitVec m} {vs : List SV} {l : List (BitVec m)} (h : LitL k vs l) : LitL k (SV.c (.int k (bvi x)) :: vs) (x :: l) := ⟨fun _ => rfl, h⟩
theorem litl_z {k : IntKind} {m : Nat} {z : Int} {vs : List SV} {l : List (BitVec m)} (hz : (decide (0 ≤ z) && decide (z < 2 ^ m)) = true) (h : LitL k vs l) : LitL k (SV.c (.int k z) :: vs) (BitVec.ofInt m z :: l) := ⟨fun _ => by rw [← litb m z hz]; rfl, h⟩
theorem litl_map {k : IntKind} {m : Nat} (e : Env) : ∀ {vs : List SV} {l : List (BitVec m)}, LitL k vs l → vs.map (·.den e) = valsL k l
  | [], [], _ => rfl
  | v :: vs, x :: l, h => by
    have := litl_map e h.2
    simp only [List.map_cons, h.1 e, this]
    rfl
theorem rdn_lit {n : Nat} {T : TypeId} {wr : Bool} {k : IntKind} {m : Nat} {vs : List SV} {l : List (BitVec m)} {len cap : Nat} (hr : S.res n = some (.blk n T (.l vs) wr)) (hl : LitL k vs l) (hc : l.length = len) : RdN C S [n] 1 (.s n 0 len cap) len (valsL k l) := by
  subst hc
  intro S' e a w h hS
  obtain ⟨fr, hb, _⟩ := res_blk hS ((h n (by simp)).trans hr)
  refine ⟨by rw [valsL_length]; omega, some ⟨(e n).b, 0, none⟩, cap, rfl, .inr ⟨(e n).b, 0, rfl, fun j u hu => ?_⟩⟩
  rw [cell_of_row w _ _ _ _ _ hb, Nat.zero_add]
  have := litl_map e hl
  simp only [SA.l, this]
  simpa using hu
theorem fsq_lit {n : Nat} {T : TypeId} {wr : Bool} {vs : List SV} {l : List (BitVec 8)} {len cap : Nat} (hr : S.res n = some (.blk n T (.l vs) wr)) (hl : LitL .u8 vs l) (hc : l.length = len) (hcap : len ≤ cap) : FSQ C S [n] (.s n 0 len cap) l := fun S' e a w hq hS => by
  subst hc
  exact ⟨rdn_lit hr hl rfl S' e a w hq hS, _, _, rfl, hcap⟩
/-! ### a slice, converted to its own type -/
end Go.Proofs.Ytihbiejgebmeaaa
namespace Go.Proofs.Ytihbiejgebmeaaa
open Go.RowKit
set_option maxRecDepth 100000
variable {C : Ctx} {ops : Array Oper} {S : St} {o : Oper}
theorem ent_own {t : List (Nat × SV)} {h : List (Nat × Option Res)} {i n q len : Nat} {T : TypeId} {A : SA} {k : IntKind} {m : Nat} (l : List (BitVec m)) (hv : look t i = some (.s n 0 len len)) (hr : (St.mk t h).res n = some (.blk n T A)) (hA : ∀ e, A.den e = vals k l) (hl : l.length = len) (hf : freshB ⟨t, h⟩ q = true) (hmax : len ≤ 1099511627776) :
    Ents C ⟨t, h⟩ ⟨(i, .v q) :: t, (n, none) :: (q, some (.own q T 1 len (valsL k l))) :: h⟩ := fun e a w hS => by
  subst hl
  have hfr := freshB_spec hf
  obtain ⟨V, hVe⟩ : ∃ V : Value, V = .slice (some ⟨(e n).b, 0, none⟩) l.length l.length := ⟨_, rfl⟩
  have h1 := hS.rename hfr ⟨0, 0, V⟩
  obtain ⟨fr, hb, hfr2⟩ := res_blk hS hr
  rw [hfr2 rfl, hA] at hb
  have hqn : q ≠ n := fun he => hfr.2 n _ hr (by rw [he]; exact List.mem_cons_self)
  have hfoot : ∀ b, (Res.own q T 1 l.length (valsL k l)).foot (e.set q ⟨0, 0, V⟩) b → b = (e n).b := by
    intro b hb
    have hb : ((e.set q ⟨0, 0, V⟩) q).v.ownBlock = some b := hb
    rw [Env.set_self, hVe] at hb
    exact (Option.some.inj hb).symm
  have hfn : (Res.blk n T A).foot (e.set q ⟨0, 0, V⟩) (e n).b := by
    show (e n).b = ((e.set q ⟨0, 0, V⟩) n).b
    rw [Env.set_ne e _ (Ne.symm hqn)]
  refine ⟨e.set q ⟨0, 0, V⟩, h1.defers, h1.size, fun j v hj => ?_, fun m' r hm => ?_, fun m' r hm hw b hb => ?_, fun m' q' r r' hm hq hne hw b hb hb' => ?_, h1.frame⟩
  · have hj2 : look ((i, SV.v q) :: t) j = some v := hj
    rw [look_cons] at hj2
    by_cases e0 : i = j
    · rw [if_pos e0] at hj2
      have hj3 : SV.v q = v := by simpa using hj2
      subst hj3
      subst e0
      show a.tmps[i]? = some ((e.set q ⟨0, 0, V⟩) q).v
      rw [Env.set_self, hVe]
      exact hS.tmp i _ hv
    · rw [if_neg e0] at hj2
      exact h1.tmp j v hj2
  · rw [St.res_cons] at hm
    split at hm
    · cases hm
    · rw [St.res_cons] at hm
      split at hm
      · cases hm
        show w.ownsRow 0 T 1 ((e.set q ⟨0, 0, V⟩) q).v l.length (valsL k l)
        rw [Env.set_self, hVe]
        have hsz : (vals k l).size = l.length := vals_size
        exact ⟨by rw [valsL_length, Nat.mul_one], .inr ⟨(e n).b, l.length, vals k l, rfl, Nat.zero_le _, hb, Nat.le_refl _, by simp only [maxLen]; omega, by rw [hsz, Nat.mul_one], by show (valsL k l).take (l.length * 1) = _; rw [Nat.mul_one]; exact List.take_of_length_le (by simp [valsL])⟩⟩
      · exact h1.res m' r hm
  · rw [St.res_cons] at hm
    split at hm
    · cases hm
    · rw [St.res_cons] at hm
      split at hm
      · cases hm
        rw [hfoot b hb]
        exact h1.mine n _ hr rfl _ hfn
      · exact h1.mine m' r hm hw b hb
  · rw [St.res_cons] at hm hq
    split at hm
    · cases hm
    · rename_i hm0
      split at hq
      · cases hq
      · rename_i hq0
        rw [St.res_cons] at hm hq
        split at hm
        · rename_i hm1
          cases hm
          split at hq
          · rename_i hq1; exact hne (hm1.symm.trans hq1)
          · rw [hfoot b hb] at hb'
            exact h1.sep n q' _ r' hr hq hq0 rfl _ hfn hb'
        · split at hq
          · cases hq
            rw [hfoot b hb'] at hb
            exact h1.sep n m' _ r hr hm hm0 rfl _ hfn hb
          · exact h1.sep m' q' r r' hm hq hne hw b hb hb'
/-! ### guards whose operation did not run -/
section
variable {P : Program} {dst : Option Tmp} {op : Op} {ty : TypeId} {pos : String} {after : Array Edge} {j : Nat} {want : Bool} {g d : Nat} {l : List Oper} {t : List (Nat × SV)} {h : List (Nat × Option Res)}
end
end Go.Proofs.Ytihbiejgebmeaaa
namespace Go.Proofs.Ytihbiejgebmeaaa
open Go.RowKit
set_option maxRecDepth 100000
variable {C : Ctx} {ops : Array Oper} {S : St} {o : Oper}
theorem op_ext0 {x : Operand} {a b : Value} (ho : o.op = .extract x 0) (hg : o.guard = none) (hd : dstB o.dst C.nt = true) (hx : S.ev x = some (.c (.tuple #[a, b]))) : OpG C Try.prog ops o S ⟨opT x, [], dw o.dst (.c a), [], []⟩ := op_extractC ho hg hd hx rfl
theorem op_ext1 {x : Operand} {a b : Value} (ho : o.op = .extract x 1) (hg : o.guard = none) (hd : dstB o.dst C.nt = true) (hx : S.ev x = some (.c (.tuple #[a, b]))) : OpG C Try.prog ops o S ⟨opT x, [], dw o.dst (.c b), [], []⟩ := op_extractC ho hg hd hx rfl
end Go.Proofs.Ytihbiejgebmeaaa
namespace Go.Proofs.Ytihbiejgebmeaaa
open Go.RowKit
set_option maxRecDepth 100000
variable {C : Ctx} {ops : Array Oper} {S : St} {o : Oper}
/-- A slice of a block, whose room nobody knows. -/
def SV.sc (n len : Nat) : SV := ⟨9, fun e => .slice (some ⟨(e n).b, 0, none⟩) len (e n).c, [n], fun e e' h => by simp only [h n (by simp)]⟩
end Go.Proofs.Ytihbiejgebmeaaa
namespace Go.Proofs.Ytihbiejgebmeaaa
open Go.RowKit
set_option maxRecDepth 100000
/-- Handed back: a new slice of these cells, and a value. -/
def RetOT (w : World) (T size len : Nat) (xs : List Value) (u : Value) : Ending → World → Prop := fun r w' => ∃ v, r = .returned (.tuple #[v, u]) ∧ w'.ownsRow w.heap.size T size v len xs ∧ Below w.heap.size w w'
section
variable {C : Ctx} {ops : Array Oper} {S : St} {o : Oper}
theorem fin_ownT {n nt T size len : Nat} {xs : List Value} {w0 : World} {u : Value} (hr : S.res n = some (.own n T size len xs)) : ∀ e a w, Holds ⟨nt, w0, []⟩ S e a w → RetOT w0 T size len xs u (.returned ((SV.tup [.v n, .c u]).den e)) w := fun e a w hS => by
  obtain ⟨v, h1, h2, h3⟩ := fin_own hr e a w hS
  have hv : v = (e n).v := by cases h1; rfl
  subst hv
  exact ⟨(e n).v, rfl, h2, h3⟩
def CallOT (C : Ctx) (S : St) (rb : List Nat) (j : FuncId) (vs : List SV) (T size len : Nat) (xs : List Value) (u : Value) : Prop := ∀ (S' : St) e a w, Holds C S' e a w → (∀ q ∈ rb, S'.res q = S.res q) → Calls Try.prog j (vs.map (·.den e)).toArray w (RetOT w T size len xs u)
theorem callOT_0 {j : FuncId} {vs : List SV} {T size len : Nat} {xs : List Value} {u : Value} (h : ∀ (e : Env) w, Calls Try.prog j (vs.map (·.den e)).toArray w (RetOT w T size len xs u)) : CallOT C S [] j vs T size len xs u := fun _ e _ w _ _ => h e w
theorem op_callOT {f : FuncId} {xs : Array Operand} {ats : Array TypeId} {vs : List SV} {rb : List Nat} {j n T size len : Nat} {ys : List Value} {u : Value} (ho : o.op = .call { callee := .value (.func f), args := xs, argTypes := ats }) (hdn : o.dst = some n) (hg : o.guard = none) (hd : dstB o.dst C.nt = true) (hxs : EvS S xs.toList vs) (hc' : tabLook calT f = some j) (hcon : CallOT C S rb j vs T size len ys u) :
    OpG C Try.prog ops o S ⟨xs.toList.flatMap opT, rb, [(n, .tup [.v n, .c u])], [(n, some (.own n T size len ys))], [n]⟩ := by
  refine opG_mk hg fun S' h1 h2 h3 e a w hS => ?_
  unfold Oper.wp
  rw [call_hop ho hxs hc' h1 hS]
  refine Calls.mono (hcon S' e a w hS h2) ?_
  rintro r w' ⟨v, rfl, hown, hb⟩
  have := (hS.ownNew (n := n) (h3 n (by simp)) hb hown).put hd (.tup [.v n, .c u])
  have hden : (SV.tup [.v n, .c u]).den (e.set n ⟨0, 0, v⟩) = .tuple #[v, u] := by
    show Value.tuple ([SV.v n, SV.c u].map (·.den (e.set n ⟨0, 0, v⟩))).toArray = _
    simp only [List.map_cons, List.map_nil, SV.v, SV.c, Env.set_self]
  rw [hden] at this
  rw [hdn] at this ⊢
  exact ⟨_, this⟩
section
variable {l : List Oper} {t : List (Nat × SV)} {h : List (Nat × Option Res)} {d : Nat} {f j : FuncId} {xs : Array Operand} {ats : Array TypeId} {vs : List SV}
theorem walk1_callOT {K : St → Prop} (ho : o.op = .call { callee := .value (.func f), args := xs, argTypes := ats }) (hdn : o.dst = some d) (hg : o.guard = none) (hd : dstB o.dst C.nt = true) (hf : freshB ⟨t, h⟩ d = true) (hxs : EvS ⟨t, h⟩ xs.toList vs) (hc' : tabLook calT f = some j)
    (hK : ∃ rb T size len ys u, CallOT C ⟨t, h⟩ rb j vs T size len ys u ∧ Walk1 C Try.prog ops l ⟨(d, .tup [.v d, .c u]) :: t, (d, some (.own d T size len ys)) :: h⟩ K) : Walk1 C Try.prog ops (o :: l) ⟨t, h⟩ K := by
  obtain ⟨rb, T, size, len, ys, u, h1, h2⟩ := hK
  exact walk1_n (op_callOT (C := C) (ops := ops) ho hdn hg hd hxs hc' h1) hf h2
theorem walk_callOT {x : List Nat} {acc : List OS} {K : St → List OS → Prop} (ho : o.op = .call { callee := .value (.func f), args := xs, argTypes := ats }) (hdn : o.dst = some d) (hg : o.guard = none) (hd : dstB o.dst C.nt = true) (hf : freshB ⟨t, h⟩ d = true) (hxs : EvS ⟨t, h⟩ xs.toList vs) (hc' : tabLook calT f = some j)
    (hK : ∃ rb T size len ys u, CallOT C ⟨t, h⟩ rb j vs T size len ys u ∧ WalkTo C Try.prog ops [] l ⟨(d, .tup [.v d, .c u]) :: t, (d, some (.own d T size len ys)) :: h⟩ (⟨x ++ xs.toList.flatMap opT, rb, [(d, .tup [.v d, .c u])], [(d, some (.own d T size len ys))], [d]⟩ :: acc) K) : WalkTo C Try.prog ops x (o :: l) ⟨t, h⟩ acc K := by
  obtain ⟨rb, T, size, len, ys, u, h1, h2⟩ := hK
  exact walk_n (op_callOT (C := C) (ops := ops) ho hdn hg hd hxs hc' h1) hf h2
end
section
variable {dst : Option Tmp} {x y : Operand} {ats : Array TypeId} {ty : TypeId} {pos : String} {after : Array Edge} {k : IntKind} {m : Nat} {a b : BitVec m}
end
end
end Go.Proofs.Ytihbiejgebmeaaa
namespace Go.Proofs.Ytihbiejgebmeaaa
open Go.RowKit
set_option maxRecDepth 100000
variable {C : Ctx} {ops : Array Oper} {S : St} {o : Oper}
end Go.Proofs.Ytihbiejgebmeaaa
