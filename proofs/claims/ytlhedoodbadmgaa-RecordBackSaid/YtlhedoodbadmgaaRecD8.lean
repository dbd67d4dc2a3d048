/- The document's Reader as an object: Num, Int, End, three numbers. No condition. -/
import Derived.Test.YtlhedoodbadmgaaRecDC
namespace Go.Proofs.Ytlhedoodbadmgaa
open Go.RowKit
set_option maxRecDepth 100000
set_option maxHeartbeats 1000000
structure RT where
  v : Value
  L0 : List (BitVec 8)
  p : Nat
  e : Int
def RT.abs (s : RT) : RdS := ⟨s.L0.drop s.p, s.e⟩
def RT.nx (k : Nat) (s : RT) : RT := if s.e = 0 then (if s.p + k ≤ s.L0.length then ⟨s.v, s.L0, s.p + k, 0⟩ else ⟨s.v, s.L0, s.p, 4⟩) else s
def RT.rd (s : RT) : World → List Nat → Prop := fun w m => FSX w m 1 s.v s.L0.length (valsL .u8 s.L0) ∧ (s.p ≤ s.L0.length ∧ s.L0.length ≤ 100000)
theorem RT.rd_later (s : RT) : Later s.rd := later_and later_fsx fun _ _ _ _ h _ _ => h
theorem RT.rd_nx {s : RT} {w : World} {m : List Nat} (k : Nat) (h : s.rd w m) : (s.nx k).rd w m := by
  unfold RT.nx
  split
  · split
    · rename_i h2
      exact ⟨h.1, h2, h.2.2⟩
    · exact h
  · exact h
theorem RT.nx_abs {s : RT} (k : Nat) (hp : s.p ≤ s.L0.length) : (s.nx k).abs = nextR k s.abs := by
  unfold RT.nx nextR RT.abs
  have h1 : (s.L0.drop s.p).length = s.L0.length - s.p := List.length_drop
  by_cases he : s.e = 0
  · rw [if_pos he]
    dsimp only
    rw [if_pos he]
    by_cases hk : s.p + k ≤ s.L0.length
    · rw [if_pos hk, if_pos (by omega), List.drop_drop]
    · rw [if_neg hk, if_neg (by omega)]
  · rw [if_neg he]
    dsimp only
    rw [if_neg he]
attribute [local irreducible] Calls Walk1 WalkTo Tri EndA
end Go.Proofs.Ytlhedoodbadmgaa
