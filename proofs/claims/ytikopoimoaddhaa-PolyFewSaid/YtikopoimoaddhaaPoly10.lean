/- Poly1305: the tag as a number. No condition. -/
import Derived.Test.YtikopoimoaddhaaPolyP
namespace Go.Proofs.Ytikopoimoaddhaa
open Go.RowKit
set_option maxRecDepth 100000
set_option maxHeartbeats 4000000
/-! ### one fold over all blocks -/
theorem blk17_take (M : List (BitVec 8)) : blk17 (M.take 16) = blk17 M := by
  unfold blk17
  rw [List.take_take, Nat.min_self]
def hK (r0 r1 : BitVec 64) (msg : List (BitVec 8)) : Nat → T3
  | 0 => z3
  | k + 1 => stepB r0 r1 (hK r0 r1 msg k) (blk17 (msg.drop (16 * k)))
theorem eatK_hK (r0 r1 : BitVec 64) (R : List (BitVec 8)) : ∀ k, eatK r0 r1 z3 R k = hK r0 r1 R k
  | 0 => rfl
  | k + 1 => by rw [eatK, hK, eatK_hK r0 r1 R k, blk17_take]
theorem sumK_hK (r0 r1 : BitVec 64) (R : List (BitVec 8)) (q : Nat) (hq : 16 * q ≤ R.length) : ∀ k, k ≤ nbl (R.drop (16 * q)).length → sumK r0 r1 (hK r0 r1 R q) (R.drop (16 * q)) k = hK r0 r1 R (q + k)
  | 0, _ => rfl
  | k + 1, h => by
    have hat := blkK_at (R.drop (16 * q)) (nbl (R.drop (16 * q)).length) k (by omega)
    rw [sumK, sumK_hK r0 r1 R q hq k (by omega), show k * 17 = 0 + k * 17 by omega, hat, List.drop_drop, show 16 * q + 16 * k = 16 * (q + k) by omega]
    rfl
theorem tagL_hK (key msg : List (BitVec 8)) : tagL key msg = endL (hK (newM key).r0 (newM key).r1 msg (nbl msg.length)) (newM key).s0 (newM key).s1 := by
  have h0 : (newM key).rest ++ msg = msg := rfl
  have h1 : (newM key).h = z3 := rfl
  unfold tagL sumM addF
  simp only [h0, h1]
  rw [eatK_hK, sumK_hK _ _ msg (msg.length / 16) (by omega) _ (Nat.le_refl _)]
  congr 2
  rw [List.length_drop]
  unfold nbl
  omega
/-! ### its value -/
theorem leN_split (B : List (BitVec 8)) (h : B.length = 17) : leN B = leN ((B.drop 0).take 8) + 18446744073709551616 * leN ((B.drop 8).take 8) + 340282366920938463463374607431768211456 * (gt B 16).toNat := by
  have e1 : B = (B.drop 0).take 8 ++ ((B.drop 8).take 8 ++ [gt B 16]) := by
    rw [List.drop_zero, gt_lt B 16 (by omega)]
    conv => lhs; rw [← List.take_append_drop 8 B, ← List.take_append_drop 8 (B.drop 8), List.drop_drop]
    congr 2
    rw [List.drop_eq_getElem_cons (by omega), List.drop_of_length_le (by omega)]
  have l1 : ((B.drop 0).take 8).length = 8 := by simp; omega
  have l2 : ((B.drop 8).take 8).length = 8 := by simp; omega
  conv => lhs; rw [e1]
  rw [leN_append, leN_append, l1, l2]
  simp only [leN]
  omega
def PP : Nat := 1361129467683753853853498429727072845819
def accN (r : Nat) (msg : List (BitVec 8)) : Nat → Nat
  | 0 => 0
  | k + 1 => (accN r msg k + leN (blk17 (msg.drop (16 * k)))) * r % PP
theorem mod_fold (T : Nat) : (T % 1361129467683753853853498429727072845824 + 5 * (T / 1361129467683753853853498429727072845824)) % PP = T % PP := by
  have h : T = (T % 1361129467683753853853498429727072845824 + 5 * (T / 1361129467683753853853498429727072845824)) + PP * (T / 1361129467683753853853498429727072845824) := by
    unfold PP; omega
  conv => rhs; rw [h]
  rw [Nat.add_mul_mod_self_left]
theorem blk17_16 (M : List (BitVec 8)) : (gt (blk17 M) 16).toNat ≤ 1 := by
  obtain ⟨h1, h2, _⟩ := blk17_gt M (min M.length 16) rfl
  rcases Nat.lt_or_ge (min M.length 16) 16 with h | h
  · rw [h2 16 h]; decide
  · have : min M.length 16 = 16 := by omega
    rw [this] at h1
    rw [h1]; decide
theorem hK_val (r0 r1 : BitVec 64) (msg : List (BitVec 8)) (h0 : r0.toNat < 1152921504606846976) (h1 : r1.toNat < 1152921504606846976) : ∀ k, val3 (hK r0 r1 msg k) % PP = accN (r0.toNat + 18446744073709551616 * r1.toNat) msg k ∧ (hK r0 r1 msg k).2.2.toNat ≤ 4
  | 0 => by
    constructor
    · show val3 z3 % PP = 0
      decide
    · show z64.toNat ≤ 4
      decide
  | k + 1 => by
    obtain ⟨ih1, ih2⟩ := hK_val r0 r1 msg h0 h1 k
    rw [hK, accN]
    have hl := blk17_length (msg.drop (16 * k))
    have hb := blk17_16 (msg.drop (16 * k))
    generalize blk17 (msg.drop (16 * k)) = B at *
    generalize hK r0 r1 msg k = g at *
    have hs := leN_split B hl
    have e0 : (num8 ((B.drop 0).take 8) 8).toNat = leN ((B.drop 0).take 8) := by
      rw [num8_nat _ 8 (by omega) (by simp; omega), List.take_of_length_le (by simp; omega)]
    have e8 : (num8 ((B.drop 8).take 8) 8).toNat = leN ((B.drop 8).take 8) := by
      rw [num8_nat _ 8 (by omega) (by simp; omega), List.take_of_length_le (by simp; omega)]
    have e16 : ((gt B 16).setWidth 64).toNat = (gt B 16).toNat := by
      rw [BitVec.toNat_setWidth]
      have := (gt B 16).isLt
      omega
    have hst := stepT_val g (num8 ((B.drop 0).take 8) 8) (num8 ((B.drop 8).take 8) 8) ((gt B 16).setWidth 64) r0 r1 ih2 (by rw [e16]; exact hb) h0 h1 _ rfl
    rw [e0, e8, e16] at hst
    have hsum : val3 g + leN ((B.drop 0).take 8) + 18446744073709551616 * leN ((B.drop 8).take 8) + 340282366920938463463374607431768211456 * (gt B 16).toNat = val3 g + leN B := by omega
    rw [hsum] at hst
    refine ⟨?_, hst.2⟩
    show val3 (stepT g _ _ _ r0 r1) % PP = _
    rw [hst.1, mod_fold, ← ih1]
    rw [Nat.mul_mod, Nat.mul_mod (val3 g % PP + leN B), Nat.mod_add_mod]
theorem red1_val (h : T3) (h2 : h.2.2.toNat ≤ 4) : val3 (red1 h) = (if PP ≤ val3 h then val3 h - PP else val3 h) ∧ (red1 h).2.2.toNat ≤ 4 := by
  obtain ⟨a, b, c⟩ := h
  simp only at h2
  have hz : z64.toNat ≤ 1 := by decide
  have hz0 : z64.toNat = 0 := by decide
  have h5 : (BitVec.ofInt 64 5).toNat = 5 := by decide
  have h4 : (BitVec.ofInt 64 4).toNat = 4 := by decide
  have e1 := add_nat a (BitVec.ofInt 64 5) z64 hz
  have c1 := carry3_le (x := a) (y := BitVec.ofInt 64 5) hz
  have e2 := add_nat b z64 _ c1
  have c2 := carry3_le (x := b) (y := z64) c1
  unfold red1
  simp only
  generalize carry3 a (BitVec.ofInt 64 5) z64 = cc at *
  generalize carry3 b z64 cc = dd at *
  generalize a + BitVec.ofInt 64 5 + z64 = a1 at *
  generalize b + z64 + cc = b1 at *
  have e3 : (c + dd).toNat = c.toNat + dd.toNat := by rw [BitVec.toNat_add]; omega
  have l0 := a1.isLt
  have l1 := b1.isLt
  have la := a.isLt
  have lb := b.isLt
  rw [hz0] at e1 e2
  rw [h5] at e1
  have hPP : PP = 1361129467683753853853498429727072845819 := rfl
  by_cases hd : 4 ≤ (c + dd).toNat
  · rw [if_pos hd]
    have e4 : (c + dd - BitVec.ofInt 64 4).toNat = c.toNat + dd.toNat - 4 := by
      rw [BitVec.toNat_sub, h4, e3]; omega
    constructor
    · rw [if_pos (by simp only [val3]; omega)]
      simp only [val3, e4]; omega
    · simp only [e4]; omega
  · rw [if_neg hd]
    constructor
    · rw [if_neg (by simp only [val3]; omega)]
    · simp only; omega
theorem redK_val (h : T3) (h2 : h.2.2.toNat ≤ 4) : val3 (redK h 2) = val3 h % PP := by
  obtain ⟨e1, g1⟩ := red1_val h h2
  obtain ⟨e2, g2⟩ := red1_val (red1 h) g1
  have hlt : val3 h < 2 * PP := by
    obtain ⟨a, b, c⟩ := h
    simp only at h2
    have := a.isLt
    have := b.isLt
    simp only [val3, PP]
    omega
  show val3 (red1 (red1 h)) = _
  rw [e2, e1]
  by_cases hp : PP ≤ val3 h
  · rw [if_pos hp, if_neg (by omega), Nat.mod_eq_sub_mod hp, Nat.mod_eq_of_lt (by omega)]
  · rw [if_neg hp, if_neg hp, Nat.mod_eq_of_lt (by omega)]
theorem endL_val (h : T3) (s0 s1 : BitVec 64) : leN (endL h s0 s1) = ((redK h 2).1.toNat + 18446744073709551616 * (redK h 2).2.1.toNat + s0.toNat + 18446744073709551616 * s1.toNat) % 340282366920938463463374607431768211456 := by
  have hz : z64.toNat ≤ 1 := by decide
  have hz0 : z64.toNat = 0 := by decide
  unfold endL
  obtain ⟨a, b, c⟩ := redK h 2
  simp only
  have e1 := add_nat a s0 z64 hz
  have c1 := carry3_le (x := a) (y := s0) hz
  have e2 := add_nat b s1 _ c1
  rw [leN_append, bytes8_nat, bytes8_nat, bytes8_length]
  have l0 := (a + s0 + z64).isLt
  have l1 := (b + s1 + carry3 a s0 z64).isLt
  generalize carry3 a s0 z64 = cc at *
  generalize a + s0 + z64 = x at *
  generalize b + s1 + cc = y at *
  rw [hz0] at e1
  omega
/-- The tag: what is reckoned so far, and the other half of the key, below 2^128. -/
theorem tagL_val (key msg : List (BitVec 8)) (h0 : (newM key).r0.toNat < 1152921504606846976) (h1 : (newM key).r1.toNat < 1152921504606846976) :
    leN (tagL key msg) = (accN ((newM key).r0.toNat + 18446744073709551616 * (newM key).r1.toNat) msg (nbl msg.length) + (newM key).s0.toNat + 18446744073709551616 * (newM key).s1.toNat) % 340282366920938463463374607431768211456 := by
  obtain ⟨v1, v2⟩ := hK_val _ _ msg h0 h1 (nbl msg.length)
  have v3 := redK_val _ v2
  rw [v1] at v3
  rw [tagL_hK, endL_val]
  simp only [val3] at v3
  generalize redK (hK (newM key).r0 (newM key).r1 msg (nbl msg.length)) 2 = g at *
  omega
/-! ### the clamped half of the key -/
theorem and_lt16 (x : BitVec 8) : (x &&& BitVec.ofInt 8 15).toNat < 16 := by
  rw [BitVec.toNat_and, show (BitVec.ofInt 8 15).toNat = 2 ^ 4 - 1 by decide, Nat.and_two_pow_sub_one_eq_mod]
  omega
theorem clampL_list (l : List (BitVec 8)) (hl : l.length = 16) : ∃ b0 b1 b2 b3 b4 b5 b6 b7 b8 b9 b10 b11 b12 b13 b14 b15, l = [b0, b1, b2, b3, b4, b5, b6, b7, b8, b9, b10, b11, b12, b13, b14, b15] ∧
    clampL l = [b0, b1, b2, b3 &&& BitVec.ofInt 8 15, b4 &&& BitVec.ofInt 8 252, b5, b6, b7 &&& BitVec.ofInt 8 15, b8 &&& BitVec.ofInt 8 252, b9, b10, b11 &&& BitVec.ofInt 8 15, b12 &&& BitVec.ofInt 8 252, b13, b14, b15 &&& BitVec.ofInt 8 15] := by
  match l, hl with
  | [b0, b1, b2, b3, b4, b5, b6, b7, b8, b9, b10, b11, b12, b13, b14, b15], _ =>
    exact ⟨b0, b1, b2, b3, b4, b5, b6, b7, b8, b9, b10, b11, b12, b13, b14, b15, rfl, rfl⟩
theorem clampL_idem (l : List (BitVec 8)) (hl : l.length = 16) : clampL (clampL l) = clampL l := by
  obtain ⟨b0, b1, b2, b3, b4, b5, b6, b7, b8, b9, b10, b11, b12, b13, b14, b15, h1, h2⟩ := clampL_list l hl
  obtain ⟨c0, c1, c2, c3, c4, c5, c6, c7, c8, c9, c10, c11, c12, c13, c14, c15, h3, h4⟩ := clampL_list (clampL l) ((clampL_length l).trans hl)
  rw [h4]
  rw [h2] at h3 ⊢
  simp only [List.cons.injEq, and_true] at h3
  obtain ⟨rfl, rfl, rfl, rfl, rfl, rfl, rfl, rfl, rfl, rfl, rfl, rfl, rfl, rfl, rfl, rfl⟩ := h3
  simp only [BitVec.and_assoc, BitVec.and_self]
theorem clamp_lt (l : List (BitVec 8)) (hl : l.length = 16) : (num8 (clampL l) 8).toNat < 1152921504606846976 ∧ (num8 (((clampL l).drop 8).take 8) 8).toNat < 1152921504606846976 := by
  obtain ⟨b0, b1, b2, b3, b4, b5, b6, b7, b8, b9, b10, b11, b12, b13, b14, b15, h1, h2⟩ := clampL_list l hl
  have hcl := (clampL_length l).trans hl
  have k1 := and_lt16 b7
  have k2 := and_lt16 b15
  rw [num8_nat _ 8 (by omega) (by omega), num8_nat _ 8 (by omega) (by rw [List.length_take, List.length_drop]; omega), h2]
  generalize b3 &&& BitVec.ofInt 8 15 = c3
  generalize b4 &&& BitVec.ofInt 8 252 = c4
  generalize b7 &&& BitVec.ofInt 8 15 = c7 at *
  generalize b8 &&& BitVec.ofInt 8 252 = c8
  generalize b11 &&& BitVec.ofInt 8 15 = c11
  generalize b12 &&& BitVec.ofInt 8 252 = c12
  generalize b15 &&& BitVec.ofInt 8 15 = c15 at *
  have t0 := b0.isLt
  have t1 := b1.isLt
  have t2 := b2.isLt
  have t3 := c3.isLt
  have t4 := c4.isLt
  have t5 := b5.isLt
  have t6 := b6.isLt
  have t8 := c8.isLt
  have t9 := b9.isLt
  have t10 := b10.isLt
  have t11 := c11.isLt
  have t12 := c12.isLt
  have t13 := b13.isLt
  have t14 := b14.isLt
  clear h1 h2 hl hcl
  simp only [List.take_succ_cons, List.take_zero, List.drop_succ_cons, List.drop_zero, leN]
  constructor <;> omega
end Go.Proofs.Ytikopoimoaddhaa
