/- Objects told by a state of their own, whatever blocks they lie in: made, changed by methods. No condition. Methods that read what lies beside their object; a walk begun anew from a later world. No condition. -/
import Derived.Test.YtihbiejgebmeaaaSymSX
namespace Go.Proofs.Ytihbiejgebmeaaa
open Go.RowKit
set_option maxRecDepth 100000
set_option maxHeartbeats 1000000
/-- The blocks that a value leads to. -/
def vblk : Value → List Nat
  | .tuple xs => xs.toList.flatMap fun v => v.ownBlock.toList
  | v => v.ownBlock.toList
/-- What is known of an object: its block, what else it leads to, its state. -/
structure Obj (σ : Type) where
  ok : World → Nat → Value → σ → Prop
  loc : ∀ {w w' : World} {b : Nat} {v : Value} {s : σ}, (∀ x, (x = b ∨ x ∈ vblk v) → w'.heap[x]? = w.heap[x]?) → ok w b v s → ok w' b v s
  lt : ∀ {w : World} {b : Nat} {v : Value} {s : σ} {x : Nat}, ok w b v s → (x = b ∨ x ∈ vblk v) → x < w.heap.size
def Res.obj {σ : Type} (n : Nat) (O : Obj σ) (s : σ) : Res where
  foot e x := x = (e n).b ∨ x ∈ vblk (e n).v
  ok e w := O.ok w (e n).b (e n).v s
  sup := [n]
  wr := true
  ind e e' h := by have h1 := h n (by simp); simp only [h1, and_self]
  loc _ _ _ h hok := O.loc h hok
  lt _ _ _ hok hf := O.lt hok hf
section
variable {C : Ctx} {ops : Array Oper} {S : St} {o : Oper}
theorem Holds.drop {e : Env} {a : Act} {w : World} (hS : Holds C S e a w) (n : Nat) : Holds C ⟨S.t, (n, none) :: S.h⟩ e a w := by
  have key : ∀ q r, (St.mk S.t ((n, none) :: S.h)).res q = some r → S.res q = some r := fun q r h => by
    rw [St.res_cons] at h
    split at h
    · cases h
    · exact h
  exact ⟨hS.defers, hS.size, hS.tmp, fun q r h => hS.res q r (key q r h), fun q r h => hS.mine q r (key q r h), fun q q' r r' h h' => hS.sep q q' r r' (key q r h) (key q' r' h'), hS.frame⟩
section
variable {l : List Oper} {t : List (Nat × SV)} {h : List (Nat × Option Res)} {d : Nat} {f j : FuncId} {xs : Array Operand} {ats : Array TypeId} {vs : List SV}
end
/-! ### a function that takes such an object -/
/-! ### reading where little has changed -/
end
end Go.Proofs.Ytihbiejgebmeaaa
namespace Go.Proofs.Ytihbiejgebmeaaa
open Go.RowKit
set_option maxRecDepth 100000
set_option maxHeartbeats 1000000
theorem BelowX.join {w w' w'' : World} {m m' : List Nat} (h : BelowX w w' m) (h' : BelowX w' w'' m') (hm : ∀ x ∈ m', x ∈ m ∨ w.heap.size ≤ x) : BelowX w w'' m := ⟨h'.os.trans h.os, h'.tape.trans h.tape, h'.output.trans h.output, Nat.le_trans h.size h'.size, fun k hk hkm => (h'.block k (Nat.lt_of_lt_of_le hk h.size) (fun hk' => (hm k hk').elim hkm (by omega))).trans (h.block k hk hkm)⟩
theorem BelowX.more {w w' : World} {m m' : List Nat} (h : BelowX w w' m) (hm : ∀ x ∈ m, x ∈ m') : BelowX w w' m' := ⟨h.os, h.tape, h.output, h.size, fun k hk hkm => h.block k hk fun hk' => hkm (hm k hk')⟩
section
variable {C : Ctx} {ops : Array Oper} {S : St} {o : Oper}
section
variable {l : List Oper} {t : List (Nat × SV)} {h : List (Nat × Option Res)} {d : Nat} {f j : FuncId} {xs : Array Operand} {ats : Array TypeId} {vs : List SV}
end
/-! ### begun anew -/
/-- The state from a later world on: some resources are kept; those that may be written lie in m. -/
theorem Holds.anew {e : Env} {a : Act} {w : World} (hS : Holds C S e a w) {t : List (Nat × SV)} {h : List (Nat × Option Res)} (m : List Nat) (ht : ∀ i v, look t i = some v → ∃ u, S.tmp i = some u ∧ u.den e = v.den e)
    (hr : ∀ n r, (St.mk t h).res n = some r → (S.res n = some r ∨ (r.wr = false ∧ (∀ b, ¬ r.foot e b) ∧ r.ok e w)))
    (hm : ∀ n r, (St.mk t h).res n = some r → r.wr = true → ∀ b, r.foot e b → b ∈ m) : Holds ⟨C.nt, w, m⟩ ⟨t, h⟩ e a w where
  defers := hS.defers
  size := hS.size
  tmp i v hv := by
    obtain ⟨u, h1, h2⟩ := ht i v hv
    rw [hS.tmp i u h1, h2]
  res n r hn := by
    rcases hr n r hn with h1 | h1
    · exact hS.res n r h1
    · exact h1.2.2
  mine n r hn hw b hb := .inr (hm n r hn hw b hb)
  sep n k r r' hn hk hne hw b hb hb' := by
    rcases hr n r hn with h1 | h1
    · rcases hr k r' hk with h2 | h2
      · exact hS.sep n k r r' h1 h2 hne hw b hb hb'
      · exact h2.2.1 b hb'
    · rw [h1.1] at hw; cases hw
  frame := ⟨rfl, rfl, rfl, Nat.le_refl _, fun _ _ _ => rfl⟩
theorem Below.joinX {n : Nat} {w w' w'' : World} {m : List Nat} (h : Below n w w') (hn : n ≤ w.heap.size) (h' : BelowX w' w'' m) (hm : ∀ x ∈ m, n ≤ x) : Below n w w'' :=
  ⟨h'.os.trans h.os, h'.tape.trans h.tape, h'.output.trans h.output, Nat.le_trans h.size h'.size, fun k hk => (h'.block k (Nat.lt_of_lt_of_le (Nat.lt_of_lt_of_le hk hn) h.size) (fun hkm => by have := hm k hkm; omega)).trans (h.block k hk)⟩
end
end Go.Proofs.Ytihbiejgebmeaaa
