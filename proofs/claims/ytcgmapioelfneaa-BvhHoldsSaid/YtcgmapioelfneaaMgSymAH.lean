/- A struct with an own slice in it and a value, handed back together; rows that hang on a slice. No condition. A slice of its own handed in, grown in place or anew, and handed back. No condition. A struct with an own slice in it, handed back alone. No condition. -/
import Derived.Test.YtcgmapioelfneaaMgTre2
namespace Go.Proofs.Ytcgmapioelfneaa
open Go.RowKit
set_option maxRecDepth 100000
set_option maxHeartbeats 1000000
def SV.fn (n : Nat) (F : Value → Value) : SV := ⟨21, fun e => F (e n).v, [n], fun e e' h => by simp only [h n (by simp)]⟩
def SA.fn (n : Nat) (G : Value → Array Value) : SA := ⟨21, fun e => G (e n).v, [n], fun e e' h => by simp only [h n (by simp)]⟩
section
variable {C : Ctx} {ops : Array Oper} {S : St} {o : Oper}
section
variable {l : List Oper} {t : List (Nat × SV)} {h : List (Nat × Option Res)} {d : Nat} {f j : FuncId} {xs : Array Operand} {ats : Array TypeId} {vs : List SV}
end
end
/-! ### a row handed back in a cell, with a value -/
theorem res_cellS {C : Ctx} {S : St} {fn : Func} {t1 t2 : Tmp} {ty1 : TypeId} {n1 m1 : Nat} {T1 : TypeId} {A1 : SA} {u : Value} {wr1 : Bool} {d1 : TypeDesc} (h : fn.results = #[.cell t1 ty1, .tmp t2]) (hv1 : S.tmp t1 = some (.p n1 0)) (hr1 : S.res n1 = some (.blk n1 T1 A1 wr1)) (hv2 : S.tmp t2 = some (.c u))
    (hu1 : tabLook undT ty1 = some d1) (hd1 : d1.isRow = true) (hi1 : tabLook sizT ty1 = some m1) (hm1 : ∀ e, (A1.den e).size = m1) : ∀ e a w, Holds C S e a w → (results fn a.tmps).run Try.prog w = .ok ((SV.tup [.row A1, .c u]).den e) w := fun e a w hS => by
  have hu := tabAll_look undT_ok hu1
  have hi := tabAll_look sizT_ok hi1
  obtain ⟨fr, hb, _⟩ := res_blk hS hr1
  have hp1 : a.tmps.getD t1 undef = .pointer (some ⟨(e n1).b, 0, none⟩) := getD_of (hS.tmp t1 _ hv1)
  have hp2 : a.tmps.getD t2 undef = u := getD_of (hS.tmp t2 _ hv2)
  have hp1' : a.tmps[t1]?.getD undef = .pointer (some ⟨(e n1).b, 0, none⟩) := by simpa using hp1
  have hp2' : a.tmps[t2]?.getD undef = u := by simpa using hp2
  have hl := run_loadVar_row (P := Try.prog) w (e n1).b T1 ty1 (A1.den e) fr d1 hb hu (by cases d1 <;> simp_all) (by rw [hi, hm1 e])
  simp [results, h, hp1', hp2', asAddr, hl]
  rfl
end Go.Proofs.Ytcgmapioelfneaa
namespace Go.Proofs.Ytcgmapioelfneaa
open Go.RowKit
set_option maxRecDepth 100000
set_option maxHeartbeats 1000000
/-- Handed back: a slice of its own, its memory new or that of the one handed in; nothing else that lay there is changed. -/
def RetA (w : World) (g : Option Nat) (K : World → Value → Prop) : Ending → World → Prop := fun r w' => ∃ v', r = .returned v' ∧ K w' v' ∧ (∀ x, v'.ownBlock = some x → g = some x ∨ w.heap.size ≤ x) ∧ BelowX w w' g.toList
theorem belowX_nil {w w' : World} (h : BelowX w w' []) : Below w.heap.size w w' := ⟨h.os, h.tape, h.output, h.size, fun b hb => h.block b hb (by simp)⟩
/-- None handed in: all is new. -/
theorem RetA.own {w w' : World} {r : Ending} {T size len : Nat} {xs : List Value} (h : RetA w none (ownK T size len xs) r w') : RetOwn w T size len xs r w' := by
  obtain ⟨v, h1, h2, h3, h4⟩ := h
  refine ⟨v, h1, ⟨h2.1, ?_⟩, belowX_nil h4⟩
  rcases h2.2 with h | ⟨g, cap, cur, hv, _, h⟩
  · exact .inl h
  · refine .inr ⟨g, cap, cur, hv, ?_, h⟩
    rcases h3 g (by rw [hv]; rfl) with h | h
    · cases h
    · exact h
section
variable {C : Ctx} {ops : Array Oper} {S : St} {o : Oper}
section
variable {l : List Oper} {t : List (Nat × SV)} {h : List (Nat × Option Res)} {d q : Nat} {f j : FuncId} {xs : Array Operand} {ats : Array TypeId} {vs : List SV} {R R' : Res}
end
end
end Go.Proofs.Ytcgmapioelfneaa
namespace Go.Proofs.Ytcgmapioelfneaa
open Go.RowKit
set_option maxRecDepth 100000
set_option maxHeartbeats 1000000
section
variable {C : Ctx} {ops : Array Oper} {S : St} {o : Oper}
section
variable {l : List Oper} {t : List (Nat × SV)} {h : List (Nat × Option Res)} {d : Nat} {f j : FuncId} {xs : Array Operand} {ats : Array TypeId} {vs : List SV}
end
end
end Go.Proofs.Ytcgmapioelfneaa
