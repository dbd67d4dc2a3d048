/- Poly1305: the reference's tag: walked; it is the program's. No condition. -/
import Derived.Test.YtikopoimoaddhaaPoly15
import Derived.Test.YtikopoimoaddhaaPoly8
import Derived.Test.YtikopoimoaddhaaPoly12
namespace Go.Proofs.Ytikopoimoaddhaa
open Go.RowKit
set_option maxRecDepth 100000
set_option maxHeartbeats 8000000
/-! ### plain -/
def addD (d h : List Nat) : Nat → List Nat
  | 0 => d
  | k + 1 => (addD d h k).set k (gtN (addD d h k) k + gtN h k)
theorem addD_length (d h : List Nat) : ∀ k, (addD d h k).length = d.length
  | 0 => rfl
  | k + 1 => by rw [addD, List.length_set, addD_length d h k]
theorem addD_five (a b c e f x0 x1 x2 x3 x4 : Nat) : addD [a, b, c, e, f] [x0, x1, x2, x3, x4] 5 = [a + x0, b + x1, c + x2, e + x3, f + x4] := rfl
theorem addD_val {d h : List Nat} (hd : dig5 d) (hh : dig5 h) : v5 (addD d h 5) = v5 d + v5 h ∧ s5 (addD d h 5) < 576460752303423488 := by
  have h1 := s5_dig hd
  have h2 := s5_dig hh
  obtain ⟨a, b, c, e, f, rfl⟩ := list5 hd.1
  obtain ⟨x0, x1, x2, x3, x4, rfl⟩ := list5 hh.1
  rw [addD_five, v5_five, v5_five, v5_five]
  have h1 : a + b + c + e + f < 335544320 := h1
  have h2 : x0 + x1 + x2 + x3 + x4 < 335544320 := h2
  clear hd hh
  refine ⟨by clear h1 h2; omega, ?_⟩
  show a + x0 + (b + x1) + (c + x2) + (e + x3) + (f + x4) < 576460752303423488
  omega
def rhK (r : List Nat) (msg : List (BitVec 8)) : Nat → List Nat
  | 0 => [0, 0, 0, 0, 0]
  | k + 1 => carR (2 ^ 26) (timO (carR (2 ^ 26) (addD (digK (blk17 (msg.drop (16 * k))) 136) (rhK r msg k) 5) 3) r 5) 3
theorem blk_lt (M : List (BitVec 8)) : leN (blk17 M) < 1361129467683753853853498429727072845824 := by
  have h1 := leN_split (blk17 M) (blk17_length M)
  have h2 := blk17_16 M
  have l1 := leN_lt (((blk17 M).drop 0).take 8)
  have l2 := leN_lt (((blk17 M).drop 8).take 8)
  have hl := blk17_length M
  have e1 : (((blk17 M).drop 0).take 8).length = 8 := by rw [List.length_take, List.length_drop]; omega
  have e2 : (((blk17 M).drop 8).take 8).length = 8 := by rw [List.length_take, List.length_drop]; omega
  rw [e1, show (256 : Nat) ^ 8 = 18446744073709551616 by decide] at l1
  rw [e2, show (256 : Nat) ^ 8 = 18446744073709551616 by decide] at l2
  omega
theorem dig0 : dig5 [0, 0, 0, 0, 0] := by
  refine ⟨rfl, ?_, ?_, ?_, ?_, ?_⟩ <;> decide
theorem dig_mid {r d : List Nat} {msg : List (BitVec 8)} (k : Nat) (hd : dig5 d) : dig5 (digK (blk17 (msg.drop (16 * k))) 136) ∧ (addD (digK (blk17 (msg.drop (16 * k))) 136) d 5).length = 5 ∧ s5 (addD (digK (blk17 (msg.drop (16 * k))) 136) d 5) < 576460752303423488 ∧ dig5 (carR (2 ^ 26) (addD (digK (blk17 (msg.drop (16 * k))) 136) d 5) 3) := by
  obtain ⟨_, h2⟩ := digK_val _ (blk_lt (msg.drop (16 * k)))
  have hal := (addD_length (digK (blk17 (msg.drop (16 * k))) 136) d 5).trans h2.1
  have ha := (addD_val h2 hd).2
  exact ⟨h2, hal, ha, (carR_val (by decide) hal ha).1⟩
theorem rhK_val {r : List Nat} (hr : dig5 r) (msg : List (BitVec 8)) : ∀ k, dig5 (rhK r msg k) ∧ v5 (rhK r msg k) % PP = accN (v5 r) msg k
  | 0 => ⟨dig0, by show v5 [0, 0, 0, 0, 0] % PP = 0; decide⟩
  | k + 1 => by
    obtain ⟨i1, i2⟩ := rhK_val hr msg k
    obtain ⟨m1, m2, m3, m4⟩ := dig_mid (r := r) (msg := msg) k i1
    have hX : ∀ i k', i < 5 → k' < 5 → gtN (carR (2 ^ 26) (addD (digK (blk17 (msg.drop (16 * k))) 136) (rhK r msg k) 5) 3) i * gtN r k' ≤ 4503599627370496 := fun i k' hi hk => prod_le (m4.small.2 i hi) (hr.small.2 k' hk)
    have hs := timO_s5 _ hX 5 (Nat.le_refl _)
    obtain ⟨c1, c2⟩ := carR_val (M := 2 ^ 26) (by decide) (timO_length (carR (2 ^ 26) (addD (digK (blk17 (msg.drop (16 * k))) 136) (rhK r msg k) 5) 3) r 5) (Nat.lt_of_le_of_lt hs (by decide))
    rw [rhK, accN]
    refine ⟨c1, ?_⟩
    rw [c2, timO_val m4.1 hr.1, Nat.mul_mod, (carR_val (by decide) m2 m3).2, (addD_val m1 i1).1, (digK_val _ (blk_lt (msg.drop (16 * k)))).1, ← i2]
    rw [Nat.mul_mod (v5 (rhK r msg k) % PP + leN (blk17 (msg.drop (16 * k)))), Nat.mod_add_mod, Nat.add_comm]
def rTag (key msg : List (BitVec 8)) : List (BitVec 8) := toP (key.drop 16) (lstK (2 ^ 26) (rhK (digK (clampL ((key.drop 0).take 16) ++ [0#8]) 136) msg (nbl msg.length)) 2) 16
theorem rTag_eq (key msg : List (BitVec 8)) (hk : key.length = 32) : rTag key msg = tagL key msg := by
  have hk16 : ((key.drop 0).take 16).length = 16 := by rw [List.length_take, List.length_drop]; omega
  have hs16 : (key.drop 16).length = 16 := by rw [List.length_drop]; omega
  have hkk : (key.drop 0).take 16 ++ key.drop 16 = key := by rw [List.drop_zero, List.take_append_drop]
  have hcl := (clampL_length ((key.drop 0).take 16)).trans hk16
  have ht := tag2_val ((key.drop 0).take 16) (key.drop 16) msg hk16 hs16
  rw [hkk] at ht
  -- the clamped half, as a number
  have hrv : leN (clampL ((key.drop 0).take 16) ++ [0#8]) = (num8 (clampL ((key.drop 0).take 16)) 8).toNat + 18446744073709551616 * (num8 (((clampL ((key.drop 0).take 16)).drop 8).take 8) 8).toNat := by
    rw [leN_append, num8_nat _ 8 (by omega) (by omega), num8_nat _ 8 (by omega) (by rw [List.length_take, List.length_drop]; omega), List.take_take, Nat.min_self, List.take_of_length_le (l := (clampL ((key.drop 0).take 16)).drop 8) (by rw [List.length_drop]; omega)]
    conv => lhs; rw [← List.take_append_drop 8 (clampL ((key.drop 0).take 16)), leN_append, List.length_take, show min 8 (clampL ((key.drop 0).take 16)).length = 8 by omega]
    simp [leN]
  have hlt : leN (clampL ((key.drop 0).take 16) ++ [0#8]) < 1361129467683753853853498429727072845824 := by
    rw [hrv]
    obtain ⟨q1, q2⟩ := clamp_lt _ hk16
    omega
  obtain ⟨r1, r2⟩ := digK_val _ hlt
  obtain ⟨w1, w2⟩ := rhK_val r2 msg (nbl msg.length)
  have hl := lst2_val (M := 2 ^ 26) (by decide) w1
  have hld := lstK_dig (M := 2 ^ 26) (by decide) w1 2
  rw [w2, r1, hrv] at hl
  refine leN_inj ((toP_length _ _ 16).trans (sumM_length _).symm) ?_
  unfold rTag
  rw [toP_tag hs16 hld, hl, ht]
  rfl
end Go.Proofs.Ytikopoimoaddhaa
