/- Poly1305 in plain numbers. No condition. -/
import Derived.Test.YtlhedoodbadmgaaSymC
namespace Go.Proofs.Ytlhedoodbadmgaa
open Go.RowKit
set_option maxRecDepth 100000
/-! ### bytes as a number -/
def leN : List (BitVec 8) → Nat
  | [] => 0
  | b :: l => b.toNat + 256 * leN l
theorem leN_lt : ∀ l : List (BitVec 8), leN l < 256 ^ l.length
  | [] => by simp [leN]
  | b :: l => by
    have := leN_lt l
    have hb := b.isLt
    simp only [leN, List.length_cons, Nat.pow_succ]
    omega
theorem leN_append : ∀ a b : List (BitVec 8), leN (a ++ b) = leN a + 256 ^ a.length * leN b
  | [], b => by simp [leN]
  | x :: a, b => by
    simp only [List.cons_append, leN, leN_append a b, List.length_cons, Nat.pow_succ, Nat.mul_add]
    rw [Nat.mul_comm (256 ^ a.length) 256, Nat.mul_assoc]
    omega
theorem leN_take {l : List (BitVec 8)} {i : Nat} (h : i < l.length) : leN (l.take (i + 1)) = leN (l.take i) + 256 ^ i * (gt l i).toNat := by
  rw [List.take_succ_eq_append_getElem h, leN_append, gt_lt l i h, List.length_take, Nat.min_eq_left (by omega)]
  simp [leN]
def num8 (l : List (BitVec 8)) : Nat → BitVec 64
  | 0 => BitVec.ofInt 64 0
  | i + 1 => num8 l i ||| ((gt l i).setWidth 64 <<< (8 * i))
theorem num8_nat (l : List (BitVec 8)) : ∀ i, i ≤ 8 → i ≤ l.length → (num8 l i).toNat = leN (l.take i)
  | 0, _, _ => by simp [num8, leN]
  | i + 1, h, hl => by
    have ih := num8_nat l i (by omega) (by omega)
    have hlt := leN_lt (l.take i)
    rw [List.length_take, Nat.min_eq_left (by omega), show (256 : Nat) ^ i = 2 ^ (8 * i) by rw [show (256 : Nat) = 2 ^ 8 from rfl, ← Nat.pow_mul]] at hlt
    have hb := (gt l i).isLt
    have hp : (gt l i).toNat <<< (8 * i) < 2 ^ 64 := by
      rw [Nat.shiftLeft_eq]
      calc (gt l i).toNat * 2 ^ (8 * i) < 2 ^ 8 * 2 ^ (8 * i) := Nat.mul_lt_mul_of_pos_right hb (Nat.two_pow_pos _)
        _ = 2 ^ (8 + 8 * i) := by rw [Nat.pow_add]
        _ ≤ 2 ^ 64 := Nat.pow_le_pow_right (by omega) (by omega)
    rw [num8, BitVec.toNat_or, BitVec.toNat_shiftLeft, BitVec.toNat_setWidth, Nat.mod_eq_of_lt (show (gt l i).toNat < 2 ^ 64 by omega), Nat.mod_eq_of_lt hp, ih, Nat.or_comm, ← Nat.shiftLeft_add_eq_or_of_lt hlt, Nat.shiftLeft_eq, leN_take (by omega)]
    rw [show (256 : Nat) ^ i = 2 ^ (8 * i) by rw [show (256 : Nat) = 2 ^ 8 from rfl, ← Nat.pow_mul], Nat.mul_comm]
    omega
/-! ### sums and products of 64 bits -/
/-! ### the state of three numbers -/
end Go.Proofs.Ytlhedoodbadmgaa
