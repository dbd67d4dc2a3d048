/- Poly1305: differences of tags; the law PolyShifts: walked. No condition. -/
import Derived.Test.YtikopoimoaddhaaPoly10
import Derived.Test.YtikopoimoaddhaaPoly7
namespace Go.Proofs.Ytikopoimoaddhaa
open Go.RowKit
set_option maxRecDepth 100000
set_option maxHeartbeats 8000000
/-! ### plain -/
def brK (a b : List (BitVec 8)) : Nat → Nat
  | 0 => 0
  | k + 1 => if (gt a k).toNat < (gt b k).toNat + brK a b k then 1 else 0
def lsP (a b : List (BitVec 8)) : Nat → List (BitVec 8)
  | 0 => []
  | k + 1 => lsP a b k ++ [BitVec.ofNat 8 ((gt a k).toNat + 256 - (gt b k).toNat - brK a b k)]
theorem lsP_length (a b : List (BitVec 8)) : ∀ k, (lsP a b k).length = k
  | 0 => rfl
  | k + 1 => by rw [lsP, List.length_append, lsP_length a b k]; rfl
theorem brK_le (a b : List (BitVec 8)) : ∀ k, brK a b k ≤ 1
  | 0 => by simp [brK]
  | k + 1 => by rw [brK]; split <;> omega
theorem lsP_val (a b : List (BitVec 8)) (ha : a.length = 16) (hb : b.length = 16) : ∀ k, k ≤ 16 → leN (a.take k) + 256 ^ k * brK a b k = leN (b.take k) + leN (lsP a b k)
  | 0, _ => by simp [lsP, brK, leN]
  | k + 1, h => by
    have ih := lsP_val a b ha hb k (by omega)
    have hbr := brK_le a b k
    have hx := (gt a k).isLt
    have hy := (gt b k).isLt
    rw [leN_take (by omega), leN_take (by omega), lsP, leN_append, lsP_length, brK]
    simp only [leN, Nat.mul_zero, Nat.add_zero, BitVec.toNat_ofNat]
    generalize brK a b k = r at *
    generalize (gt a k).toNat = x at *
    generalize (gt b k).toNat = y at *
    have e : (256 : Nat) ^ (k + 1) = 256 * 256 ^ k := by rw [Nat.pow_succ, Nat.mul_comm]
    rw [e]
    generalize 256 ^ k = p at *
    have hd : x + 256 * (if x < y + r then 1 else 0) = y + r + (x + 256 - y - r) % 256 := by
      split <;> omega
    generalize (x + 256 - y - r) % 256 = z at *
    generalize (if x < y + r then 1 else 0) = q at *
    have h2 := congrArg (fun t => p * t) hd
    simp only [Nat.mul_add] at h2
    have e3 : p * (256 * q) = 256 * p * q := by rw [Nat.mul_left_comm, Nat.mul_assoc]
    rw [e3] at h2
    omega
def lessL (a b : List (BitVec 8)) : List (BitVec 8) := lsP a b 16
theorem lessL_eq {a b s : List (BitVec 8)} (ha : a.length = 16) (hb : b.length = 16) (hs : s.length = 16) (A : Nat) (h1 : leN b = A % 340282366920938463463374607431768211456) (h2 : leN a = (A + leN s) % 340282366920938463463374607431768211456) : lessL a b = s := by
  refine leN_inj ((lsP_length a b 16).trans hs.symm) ?_
  have hv := lsP_val a b ha hb 16 (Nat.le_refl _)
  have hbr := brK_le a b 16
  rw [List.take_of_length_le (by omega), List.take_of_length_le (by omega), show (256 : Nat) ^ 16 = 340282366920938463463374607431768211456 by decide] at hv
  have l1 := leN_lt s
  rw [hs, show (256 : Nat) ^ 16 = 340282366920938463463374607431768211456 by decide] at l1
  have l2 := leN_lt (lsP a b 16)
  rw [lsP_length, show (256 : Nat) ^ 16 = 340282366920938463463374607431768211456 by decide] at l2
  show leN (lsP a b 16) = leN s
  omega
def accK (k msg : List (BitVec 8)) : Nat := accN ((num8 (clampL k) 8).toNat + 18446744073709551616 * (num8 (((clampL k).drop 8).take 8) 8).toNat) msg (nbl msg.length)
theorem tag2_val (k s msg : List (BitVec 8)) (hk : k.length = 16) (hs : s.length = 16) : leN (tagL (k ++ s) msg) = (accK k msg + leN s) % 340282366920938463463374607431768211456 := by
  have e0 : ((k ++ s).drop 0).take 16 = k := by rw [List.drop_zero, List.take_append_of_le_length (by omega), List.take_of_length_le (by omega)]
  have e1 : (k ++ s).drop 16 = s := by rw [List.drop_append, List.drop_of_length_le (by omega), hk]; rfl
  have e2 : (k ++ s).drop 24 = s.drop 8 := by rw [List.drop_append, List.drop_of_length_le (by omega), hk]; rfl
  obtain ⟨c1, c2⟩ := clamp_lt k hk
  have hv := tagL_val (k ++ s) msg
  unfold newM at hv
  simp only [e0, e1, e2] at hv
  rw [hv c1 c2]
  have n0 : (num8 (s.take 16) 8).toNat = leN (s.take 8) := by
    rw [num8_nat _ 8 (by omega) (by rw [List.length_take]; omega), List.take_take]; rfl
  have n1 : (num8 ((s.drop 8).take 8) 8).toNat = leN (s.drop 8) := by
    rw [num8_nat _ 8 (by omega) (by rw [List.length_take, List.length_drop]; omega), List.take_take, Nat.min_self, List.take_of_length_le (by rw [List.length_drop]; omega)]
  have hsp : leN s = leN (s.take 8) + 18446744073709551616 * leN (s.drop 8) := by
    conv => lhs; rw [← List.take_append_drop 8 s, leN_append, List.length_take, show min 8 s.length = 8 by omega]
  rw [n0, n1, hsp]
  unfold accK
  congr 1
  omega
theorem tag_clamped (k s msg : List (BitVec 8)) (hk : k.length = 16) : tagL (clampL k ++ s) msg = tagL (k ++ s) msg := by
  have hc := (clampL_length k).trans hk
  have e : newM (clampL k ++ s) = newM (k ++ s) := by
    unfold newM
    have e0 : ∀ x : List (BitVec 8), x.length = 16 → ((x ++ s).drop 0).take 16 = x := fun x hx => by rw [List.drop_zero, List.take_append_of_le_length (by omega), List.take_of_length_le (by omega)]
    have e1 : ∀ (x : List (BitVec 8)) (j : Nat), x.length = 16 → (x ++ s).drop (16 + j) = s.drop j := fun x j hx => by rw [List.drop_append, List.drop_of_length_le (by omega), hx, List.nil_append]; congr 1; omega
    rw [e0 _ hc, e0 _ hk, clampL_idem k hk, e1 _ 0 hc, e1 _ 0 hk, e1 _ 8 hc, e1 _ 8 hk]
  unfold tagL
  rw [e]
end Go.Proofs.Ytikopoimoaddhaa
