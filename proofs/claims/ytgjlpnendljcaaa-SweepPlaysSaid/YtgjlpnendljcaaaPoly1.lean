/- Poly1305 in plain numbers. No condition. -/
import Derived.Test.YtgjlpnendljcaaaSymC
namespace Go.Proofs.Ytgjlpnendljcaaa
open Go.RowKit
set_option maxRecDepth 100000
/-! ### bytes as a number -/
def leN : List (BitVec 8) → Nat
  | [] => 0
  | b :: l => b.toNat + 256 * leN l
theorem leN_lt : ∀ l : List (BitVec 8), leN l < 256 ^ l.length
  | [] => by simp [leN]
  | b :: l => by
    have := leN_lt l
    have hb := b.isLt
    simp only [leN, List.length_cons, Nat.pow_succ]
    omega
theorem leN_append : ∀ a b : List (BitVec 8), leN (a ++ b) = leN a + 256 ^ a.length * leN b
  | [], b => by simp [leN]
  | x :: a, b => by
    simp only [List.cons_append, leN, leN_append a b, List.length_cons, Nat.pow_succ, Nat.mul_add]
    rw [Nat.mul_comm (256 ^ a.length) 256, Nat.mul_assoc]
    omega
theorem leN_take {l : List (BitVec 8)} {i : Nat} (h : i < l.length) : leN (l.take (i + 1)) = leN (l.take i) + 256 ^ i * (gt l i).toNat := by
  rw [List.take_succ_eq_append_getElem h, leN_append, gt_lt l i h, List.length_take, Nat.min_eq_left (by omega)]
  simp [leN]
theorem leN_inj : ∀ {a b : List (BitVec 8)}, a.length = b.length → leN a = leN b → a = b
  | [], [], _, _ => rfl
  | [], _ :: _, h, _ => by simp at h
  | _ :: _, [], h, _ => by simp at h
  | x :: a, y :: b, h, h2 => by
    simp only [leN] at h2
    have hx := x.isLt
    have hy := y.isLt
    have e1 : x = y := by apply BitVec.eq_of_toNat_eq; omega
    have e2 : leN a = leN b := by omega
    rw [e1, leN_inj (by simpa using h) e2]
theorem leN_zero : ∀ n : Nat, leN (List.replicate n 0#8) = 0
  | 0 => rfl
  | n + 1 => by rw [List.replicate_succ, leN, leN_zero n]; rfl
def num8 (l : List (BitVec 8)) : Nat → BitVec 64
  | 0 => BitVec.ofInt 64 0
  | i + 1 => num8 l i ||| ((gt l i).setWidth 64 <<< (8 * i))
theorem num8_nat (l : List (BitVec 8)) : ∀ i, i ≤ 8 → i ≤ l.length → (num8 l i).toNat = leN (l.take i)
  | 0, _, _ => by simp [num8, leN]
  | i + 1, h, hl => by
    have ih := num8_nat l i (by omega) (by omega)
    have hlt := leN_lt (l.take i)
    rw [List.length_take, Nat.min_eq_left (by omega), show (256 : Nat) ^ i = 2 ^ (8 * i) by rw [show (256 : Nat) = 2 ^ 8 from rfl, ← Nat.pow_mul]] at hlt
    have hb := (gt l i).isLt
    have hp : (gt l i).toNat <<< (8 * i) < 2 ^ 64 := by
      rw [Nat.shiftLeft_eq]
      calc (gt l i).toNat * 2 ^ (8 * i) < 2 ^ 8 * 2 ^ (8 * i) := Nat.mul_lt_mul_of_pos_right hb (Nat.two_pow_pos _)
        _ = 2 ^ (8 + 8 * i) := by rw [Nat.pow_add]
        _ ≤ 2 ^ 64 := Nat.pow_le_pow_right (by omega) (by omega)
    rw [num8, BitVec.toNat_or, BitVec.toNat_shiftLeft, BitVec.toNat_setWidth, Nat.mod_eq_of_lt (show (gt l i).toNat < 2 ^ 64 by omega), Nat.mod_eq_of_lt hp, ih, Nat.or_comm, ← Nat.shiftLeft_add_eq_or_of_lt hlt, Nat.shiftLeft_eq, leN_take (by omega)]
    rw [show (256 : Nat) ^ i = 2 ^ (8 * i) by rw [show (256 : Nat) = 2 ^ 8 from rfl, ← Nat.pow_mul], Nat.mul_comm]
    omega
def bytes8 (x : BitVec 64) : List (BitVec 8) := (List.range 8).map fun i => (x >>> (8 * i)).setWidth 8
theorem bytesN (x : BitVec 64) : ∀ n, leN ((List.range n).map fun i => (x >>> (8 * i)).setWidth 8) = x.toNat % 2 ^ (8 * n)
  | 0 => by simp [leN, Nat.mod_one]
  | n + 1 => by
    rw [List.range_succ, List.map_append, leN_append, bytesN x n]
    simp only [List.map_cons, List.map_nil, leN, List.length_map, List.length_range, BitVec.toNat_setWidth, BitVec.toNat_ushiftRight, Nat.mul_zero, Nat.add_zero, Nat.shiftRight_eq_div_pow]
    rw [show (256 : Nat) ^ n = 2 ^ (8 * n) by rw [show (256 : Nat) = 2 ^ 8 from rfl, ← Nat.pow_mul], show 8 * (n + 1) = 8 * n + 8 by omega, Nat.pow_add 2 (8 * n) 8, Nat.mod_mul]
theorem bytes8_nat (x : BitVec 64) : leN (bytes8 x) = x.toNat := by
  rw [bytes8, bytesN]
  exact Nat.mod_eq_of_lt x.isLt
theorem bytes8_length (x : BitVec 64) : (bytes8 x).length = 8 := by simp [bytes8]
/-! ### sums and products of 64 bits -/
def carry3 (x y z : BitVec 64) : BitVec 64 := BitVec.ofNat 64 ((x.toNat + y.toNat + z.toNat) / 18446744073709551616)
theorem carry3_le {x y z : BitVec 64} (h : z.toNat ≤ 1) : (carry3 x y z).toNat ≤ 1 := by
  have hx := x.isLt
  have hy := y.isLt
  unfold carry3
  rw [BitVec.toNat_ofNat]
  omega
theorem add_nat (x y z : BitVec 64) (h : z.toNat ≤ 1) : (x + y + z).toNat + 18446744073709551616 * (carry3 x y z).toNat = x.toNat + y.toNat + z.toNat := by
  have hx := x.isLt
  have hy := y.isLt
  unfold carry3
  rw [BitVec.toNat_ofNat]
  simp only [BitVec.toNat_add]
  omega
def m32 : BitVec 64 := BitVec.ofInt 64 4294967295
def mulHi (x y : BitVec 64) : BitVec 64 :=
  (x >>> 32) * (y >>> 32) + ((x >>> 32) * (y &&& m32) + ((x &&& m32) * (y &&& m32)) >>> 32) >>> 32 + ((((x >>> 32) * (y &&& m32) + ((x &&& m32) * (y &&& m32)) >>> 32) &&& m32) + (x &&& m32) * (y >>> 32)) >>> 32
theorem and_m32 (x : BitVec 64) : (x &&& m32).toNat = x.toNat % 4294967296 := by
  rw [BitVec.toNat_and, show m32.toNat = 2 ^ 32 - 1 by decide, Nat.and_two_pow_sub_one_eq_mod]
theorem mul_lt32 {a b : Nat} (ha : a < 4294967296) (hb : b < 4294967296) : a * b ≤ 18446744065119617025 := by
  calc a * b ≤ 4294967295 * 4294967295 := Nat.mul_le_mul (by omega) (by omega)
    _ = _ := by decide
theorem mul_nat (x y : BitVec 64) : (x * y).toNat + 18446744073709551616 * (mulHi x y).toNat = x.toNat * y.toNat := by
  have hx := x.isLt
  have hy := y.isLt
  obtain ⟨x1, hx1⟩ : ∃ n, n = x.toNat / 4294967296 := ⟨_, rfl⟩
  obtain ⟨x0, hx0⟩ : ∃ n, n = x.toNat % 4294967296 := ⟨_, rfl⟩
  obtain ⟨y1, hy1⟩ : ∃ n, n = y.toNat / 4294967296 := ⟨_, rfl⟩
  obtain ⟨y0, hy0⟩ : ∃ n, n = y.toNat % 4294967296 := ⟨_, rfl⟩
  have b11 := mul_lt32 (show x1 < 4294967296 by omega) (show y1 < 4294967296 by omega)
  have b10 := mul_lt32 (show x1 < 4294967296 by omega) (show y0 < 4294967296 by omega)
  have b01 := mul_lt32 (show x0 < 4294967296 by omega) (show y1 < 4294967296 by omega)
  have b00 := mul_lt32 (show x0 < 4294967296 by omega) (show y0 < 4294967296 by omega)
  have hxy : x.toNat * y.toNat = 18446744073709551616 * (x1 * y1) + 4294967296 * (x1 * y0) + 4294967296 * (x0 * y1) + x0 * y0 := by
    have e1 : x.toNat = 4294967296 * x1 + x0 := by omega
    have e2 : y.toNat = 4294967296 * y1 + y0 := by omega
    rw [e1, e2, Nat.add_mul, Nat.mul_add, Nat.mul_add]
    have e3 : 4294967296 * x1 * (4294967296 * y1) = 18446744073709551616 * (x1 * y1) := by
      rw [Nat.mul_mul_mul_comm]
    have e4 : 4294967296 * x1 * y0 = 4294967296 * (x1 * y0) := Nat.mul_assoc _ _ _
    have e5 : x0 * (4294967296 * y1) = 4294967296 * (x0 * y1) := Nat.mul_left_comm _ _ _
    rw [e3, e4, e5]
    omega
  have h1 : (x >>> 32).toNat = x1 := by rw [BitVec.toNat_ushiftRight, Nat.shiftRight_eq_div_pow]; exact hx1.symm
  have h2 : (y >>> 32).toNat = y1 := by rw [BitVec.toNat_ushiftRight, Nat.shiftRight_eq_div_pow]; exact hy1.symm
  have h3 : (x &&& m32).toNat = x0 := (and_m32 x).trans hx0.symm
  have h4 : (y &&& m32).toNat = y0 := (and_m32 y).trans hy0.symm
  have hw0 : ((x &&& m32) * (y &&& m32)).toNat = x0 * y0 := by rw [BitVec.toNat_mul, h3, h4]; omega
  have ht : ((x >>> 32) * (y &&& m32) + ((x &&& m32) * (y &&& m32)) >>> 32).toNat = x1 * y0 + x0 * y0 / 4294967296 := by
    rw [BitVec.toNat_add, BitVec.toNat_mul, h1, h4, BitVec.toNat_ushiftRight, hw0, Nat.shiftRight_eq_div_pow]
    omega
  have hhi : (mulHi x y).toNat = x1 * y1 + (x1 * y0 + x0 * y0 / 4294967296) / 4294967296 + ((x1 * y0 + x0 * y0 / 4294967296) % 4294967296 + x0 * y1) / 4294967296 := by
    unfold mulHi
    generalize ((x >>> 32) * (y &&& m32) + ((x &&& m32) * (y &&& m32)) >>> 32) = t at ht ⊢
    simp only [BitVec.toNat_add, BitVec.toNat_mul, BitVec.toNat_ushiftRight, and_m32, ht, Nat.shiftRight_eq_div_pow]
    have e5 : x.toNat / 2 ^ 32 = x1 := hx1.symm
    have e6 : y.toNat / 2 ^ 32 = y1 := hy1.symm
    rw [e5, e6, ← hx0]
    generalize x1 * y1 = p11 at *
    generalize x1 * y0 = p10 at *
    generalize x0 * y1 = p01 at *
    generalize x0 * y0 = p00 at *
    omega
  rw [hhi, BitVec.toNat_mul, hxy]
  generalize x1 * y1 = p11 at *
  generalize x1 * y0 = p10 at *
  generalize x0 * y1 = p01 at *
  generalize x0 * y0 = p00 at *
  omega
/-! ### the state of three numbers -/
abbrev T3 := BitVec 64 × BitVec 64 × BitVec 64
def val3 (h : T3) : Nat := h.1.toNat + 18446744073709551616 * h.2.1.toNat + 340282366920938463463374607431768211456 * h.2.2.toNat
def z64 : BitVec 64 := BitVec.ofInt 64 0
def addT (h : T3) (lo hi : BitVec 64) : T3 :=
  (h.1 + lo + z64, h.2.1 + hi + carry3 h.1 lo z64, h.2.2 + carry3 h.2.1 hi (carry3 h.1 lo z64))
theorem addT_val (h : T3) (lo hi : BitVec 64) (h2 : h.2.2.toNat < 1000) : val3 (addT h lo hi) = val3 h + lo.toNat + 18446744073709551616 * hi.toNat ∧ (addT h lo hi).2.2.toNat ≤ h.2.2.toNat + 1 := by
  have hz : z64.toNat ≤ 1 := by decide
  have hz0 : z64.toNat = 0 := by decide
  have e1 := add_nat h.1 lo z64 hz
  have c1 := carry3_le (x := h.1) (y := lo) hz
  have e2 := add_nat h.2.1 hi (carry3 h.1 lo z64) c1
  have c2 := carry3_le (x := h.2.1) (y := hi) c1
  have e3 : (h.2.2 + carry3 h.2.1 hi (carry3 h.1 lo z64)).toNat = h.2.2.toNat + (carry3 h.2.1 hi (carry3 h.1 lo z64)).toNat := by
    rw [BitVec.toNat_add]; omega
  simp only [val3, addT]
  rw [e3]
  omega
def mulT (a : T3) (r0 r1 : BitVec 64) : BitVec 64 × BitVec 64 × BitVec 64 × BitVec 64 :=
  let hi00 := mulHi a.1 r0
  let lo00 := a.1 * r0
  let hi10 := mulHi a.2.1 r0
  let lo10 := a.2.1 * r0
  let hi01 := mulHi a.1 r1
  let lo01 := a.1 * r1
  let hi11 := mulHi a.2.1 r1
  let lo11 := a.2.1 * r1
  let lo20 := a.2.2 * r0
  let lo21 := a.2.2 * r1
  let m1 := lo10 + lo01 + z64
  let c1 := carry3 lo10 lo01 z64
  let m2 := hi10 + hi01 + c1
  let c2 := carry3 hi10 hi01 c1
  let m3 := z64 + z64 + c2
  let m2' := m2 + lo11 + z64
  let c1' := carry3 m2 lo11 z64
  let m3' := m3 + hi11 + c1'
  let m2'' := m2' + lo20 + z64
  let c1'' := carry3 m2' lo20 z64
  let m3'' := m3' + lo21 + c1''
  let t1 := m1 + hi00 + z64
  let e1 := carry3 m1 hi00 z64
  let t2 := m2'' + z64 + e1
  let e2 := carry3 m2'' z64 e1
  let t3 := m3'' + z64 + e2
  (lo00, t1, t2, t3)
theorem mul_core {a0 a1 a2 r0 r1 hi00 lo00 hi10 lo10 hi01 lo01 hi11 lo11 lo20 lo21 m1 c1 m2 c2 m3 c3 m2' c1' m3' d1 m2'' c1'' m3'' d2 t1 e1 t2 e2 t3 d3 : Nat}
    (p00 : lo00 + 18446744073709551616 * hi00 = a0 * r0) (p10 : lo10 + 18446744073709551616 * hi10 = a1 * r0) (p01 : lo01 + 18446744073709551616 * hi01 = a0 * r1) (p11 : lo11 + 18446744073709551616 * hi11 = a1 * r1)
    (p20 : lo20 = a2 * r0) (p21 : lo21 = a2 * r1)
    (q1 : m1 + 18446744073709551616 * c1 = lo10 + lo01) (q2 : m2 + 18446744073709551616 * c2 = hi10 + hi01 + c1) (q3 : m3 + 18446744073709551616 * c3 = c2) (q4 : m2' + 18446744073709551616 * c1' = m2 + lo11) (q5 : m3' + 18446744073709551616 * d1 = m3 + hi11 + c1')
    (q6 : m2'' + 18446744073709551616 * c1'' = m2' + lo20) (q7 : m3'' + 18446744073709551616 * d2 = m3' + lo21 + c1'') (q8 : t1 + 18446744073709551616 * e1 = m1 + hi00) (q9 : t2 + 18446744073709551616 * e2 = m2'' + e1) (q10 : t3 + 18446744073709551616 * d3 = m3'' + e2)
    (hb : (a0 + 18446744073709551616 * a1 + 340282366920938463463374607431768211456 * a2) * (r0 + 18446744073709551616 * r1) < 115792089237316195423570985008687907853269984665640564039457584007913129639936) :
    lo00 + 18446744073709551616 * t1 + 340282366920938463463374607431768211456 * t2 + 6277101735386680763835789423207666416102355444464034512896 * t3 = (a0 + 18446744073709551616 * a1 + 340282366920938463463374607431768211456 * a2) * (r0 + 18446744073709551616 * r1) := by
  have hx : (a0 + 18446744073709551616 * a1 + 340282366920938463463374607431768211456 * a2) * (r0 + 18446744073709551616 * r1) = a0 * r0 + 18446744073709551616 * (a1 * r0 + a0 * r1) + 340282366920938463463374607431768211456 * (a1 * r1 + a2 * r0) + 6277101735386680763835789423207666416102355444464034512896 * (a2 * r1) := by
    simp only [Nat.add_mul, Nat.mul_add]
    have g1 : a0 * (18446744073709551616 * r1) = 18446744073709551616 * (a0 * r1) := Nat.mul_left_comm _ _ _
    have g2 : 18446744073709551616 * a1 * r0 = 18446744073709551616 * (a1 * r0) := Nat.mul_assoc _ _ _
    have g3 : 18446744073709551616 * a1 * (18446744073709551616 * r1) = 340282366920938463463374607431768211456 * (a1 * r1) := by rw [Nat.mul_mul_mul_comm]
    have g4 : 340282366920938463463374607431768211456 * a2 * r0 = 340282366920938463463374607431768211456 * (a2 * r0) := Nat.mul_assoc _ _ _
    have g5 : 340282366920938463463374607431768211456 * a2 * (18446744073709551616 * r1) = 6277101735386680763835789423207666416102355444464034512896 * (a2 * r1) := by rw [Nat.mul_mul_mul_comm]
    rw [g1, g2, g3, g4, g5]
    omega
  rw [hx] at hb ⊢
  generalize a0 * r0 = P00 at *
  generalize a1 * r0 = P10 at *
  generalize a0 * r1 = P01 at *
  generalize a1 * r1 = P11 at *
  generalize a2 * r0 = P20 at *
  generalize a2 * r1 = P21 at *
  have key : lo00 + 18446744073709551616 * t1 + 340282366920938463463374607431768211456 * t2 + 6277101735386680763835789423207666416102355444464034512896 * t3 + 115792089237316195423570985008687907853269984665640564039457584007913129639936 * (c3 + d1 + d2 + d3) = P00 + 18446744073709551616 * (P10 + P01) + 340282366920938463463374607431768211456 * (P11 + P20) + 6277101735386680763835789423207666416102355444464034512896 * P21 := by
    omega
  omega
theorem mulT_val (a : T3) (r0 r1 : BitVec 64) (h2 : a.2.2.toNat ≤ 6) (h0 : r0.toNat < 1152921504606846976) (h1 : r1.toNat < 1152921504606846976) :
    (mulT a r0 r1).1.toNat + 18446744073709551616 * (mulT a r0 r1).2.1.toNat + 340282366920938463463374607431768211456 * (mulT a r0 r1).2.2.1.toNat + 6277101735386680763835789423207666416102355444464034512896 * (mulT a r0 r1).2.2.2.toNat = val3 a * (r0.toNat + 18446744073709551616 * r1.toNat) ∧ val3 a * (r0.toNat + 18446744073709551616 * r1.toNat) ≤ 7 * 340282366920938463463374607431768211456 * 21267647932558653966460912964485513216 := by
  obtain ⟨a0, a1, a2⟩ := a
  have hz : z64.toNat ≤ 1 := by decide
  have hz0 : z64.toNat = 0 := by decide
  have b0 := a0.isLt
  have b1 := a1.isLt
  have hbd : val3 (a0, a1, a2) * (r0.toNat + 18446744073709551616 * r1.toNat) ≤ (7 * 340282366920938463463374607431768211456) * 21267647932558653966460912964485513216 := by
    refine Nat.mul_le_mul ?_ ?_
    · simp only [val3]; simp only at h2; omega
    · omega
  refine ⟨?_, hbd⟩
  have d0 : (a2 * r0).toNat = a2.toNat * r0.toNat := by
    rw [BitVec.toNat_mul]
    have : a2.toNat * r0.toNat ≤ 6 * 1152921504606846976 := Nat.mul_le_mul h2 (by omega)
    omega
  have d1 : (a2 * r1).toNat = a2.toNat * r1.toNat := by
    rw [BitVec.toNat_mul]
    have : a2.toNat * r1.toNat ≤ 6 * 1152921504606846976 := Nat.mul_le_mul h2 (by omega)
    omega
  have add0 : ∀ x y z : BitVec 64, z.toNat ≤ 1 → ∃ c : Nat, c = (carry3 x y z).toNat ∧ (x + y + z).toNat + 18446744073709551616 * c = x.toNat + y.toNat + z.toNat := fun x y z h => ⟨_, rfl, add_nat x y z h⟩
  have q1 := add_nat (a1 * r0) (a0 * r1) z64 hz
  have k1 := carry3_le (x := a1 * r0) (y := a0 * r1) hz
  have q2 := add_nat (mulHi a1 r0) (mulHi a0 r1) _ k1
  have k2 := carry3_le (x := mulHi a1 r0) (y := mulHi a0 r1) k1
  have q3 := add_nat z64 z64 _ k2
  simp only [val3] at hbd
  unfold mulT
  simp only [val3]
  generalize hc1 : carry3 (a1 * r0) (a0 * r1) z64 = c1 at *
  generalize hc2 : carry3 (mulHi a1 r0) (mulHi a0 r1) c1 = c2 at *
  generalize hm1 : a1 * r0 + a0 * r1 + z64 = m1 at *
  generalize hm2 : mulHi a1 r0 + mulHi a0 r1 + c1 = m2 at *
  generalize hm3 : z64 + z64 + c2 = m3 at *
  have q4 := add_nat m2 (a1 * r1) z64 hz
  have k4 := carry3_le (x := m2) (y := a1 * r1) hz
  generalize carry3 m2 (a1 * r1) z64 = c1' at *
  have q5 := add_nat m3 (mulHi a1 r1) c1' k4
  generalize m3 + mulHi a1 r1 + c1' = m3' at *
  generalize m2 + a1 * r1 + z64 = m2' at *
  have q6 := add_nat m2' (a2 * r0) z64 hz
  have k6 := carry3_le (x := m2') (y := a2 * r0) hz
  generalize carry3 m2' (a2 * r0) z64 = c1'' at *
  generalize m2' + a2 * r0 + z64 = m2'' at *
  have q7 := add_nat m3' (a2 * r1) c1'' k6
  generalize m3' + a2 * r1 + c1'' = m3'' at *
  have q8 := add_nat m1 (mulHi a0 r0) z64 hz
  have k8 := carry3_le (x := m1) (y := mulHi a0 r0) hz
  generalize carry3 m1 (mulHi a0 r0) z64 = e1 at *
  generalize m1 + mulHi a0 r0 + z64 = t1 at *
  have q9 := add_nat m2'' z64 e1 k8
  have k9 := carry3_le (x := m2'') (y := z64) k8
  generalize carry3 m2'' z64 e1 = e2 at *
  generalize m2'' + z64 + e1 = t2 at *
  have q10 := add_nat m3'' z64 e2 k9
  generalize m3'' + z64 + e2 = t3 at *
  have p00 := mul_nat a0 r0
  have p10 := mul_nat a1 r0
  have p01 := mul_nat a0 r1
  have p11 := mul_nat a1 r1
  rw [hz0] at q1 q3 q4 q6 q8 q9 q10
  simp only [Nat.add_zero, Nat.zero_add] at q1 q3 q4 q6 q8 q9 q10
  exact mul_core p00 p10 p01 p11 d0 d1 q1 q2 q3 q4 q5 q6 q7 q8 q9 q10 (Nat.lt_of_le_of_lt hbd (by decide))
def c3u : BitVec 64 := BitVec.ofInt 64 3
def stepT (h : T3) (n0 n1 n2 r0 r1 : BitVec 64) : T3 :=
  let a : T3 := (h.1 + n0 + z64, h.2.1 + n1 + carry3 h.1 n0 z64, h.2.2 + (n2 + carry3 h.2.1 n1 (carry3 h.1 n0 z64)))
  let t := mulT a r0 r1
  addT (addT (t.1, t.2.1, t.2.2.1 &&& c3u) (t.2.2.1 &&& ~~~c3u) t.2.2.2) (t.2.2.1 >>> 2 ||| t.2.2.2 <<< 62) (t.2.2.2 >>> 2)
theorem and3 (x : BitVec 64) : (x &&& c3u).toNat = x.toNat % 4 := by
  rw [BitVec.toNat_and, show c3u.toNat = 2 ^ 2 - 1 by decide, Nat.and_two_pow_sub_one_eq_mod]
theorem andn3 (x : BitVec 64) : (x &&& ~~~c3u).toNat = x.toNat / 4 * 4 := by
  have h : x &&& ~~~c3u = (x >>> 2) <<< 2 := by
    apply BitVec.eq_of_getLsbD_eq
    intro i hi
    simp only [BitVec.getLsbD_and, BitVec.getLsbD_not, BitVec.getLsbD_shiftLeft, BitVec.getLsbD_ushiftRight, hi, decide_true, Bool.true_and]
    rcases i with _ | _ | i
    · simp [c3u]
    · simp [c3u]
    · have : c3u.getLsbD (i + 2) = false := by
        rw [show c3u = BitVec.ofNat 64 3 by decide, BitVec.getLsbD_ofNat]
        have : Nat.testBit 3 (i + 2) = false := Nat.testBit_lt_two_pow (Nat.lt_of_lt_of_le (by decide : 3 < 2 ^ 2) (Nat.pow_le_pow_right (by omega) (by omega)))
        simp [this]
      simp [this, show 2 + i = i + 2 by omega]
  rw [h, BitVec.toNat_shiftLeft, BitVec.toNat_ushiftRight, Nat.shiftRight_eq_div_pow, Nat.shiftLeft_eq]
  have := x.isLt
  omega
theorem or62 (x y : BitVec 64) : (x >>> 2 ||| y <<< 62).toNat = x.toNat / 4 + 4611686018427387904 * (y.toNat % 4) := by
  have hx := x.isLt
  rw [BitVec.toNat_or, BitVec.toNat_ushiftRight, BitVec.toNat_shiftLeft, Nat.shiftRight_eq_div_pow]
  have e : y.toNat <<< 62 % 2 ^ 64 = (y.toNat % 4) <<< 62 := by
    rw [Nat.shiftLeft_eq, Nat.shiftLeft_eq]
    omega
  rw [e, Nat.or_comm, ← Nat.shiftLeft_add_eq_or_of_lt (by omega), Nat.shiftLeft_eq]
  omega
theorem stepT_val (h : T3) (n0 n1 n2 r0 r1 : BitVec 64) (h2 : h.2.2.toNat ≤ 4) (hn : n2.toNat ≤ 1) (h0 : r0.toNat < 1152921504606846976) (h1 : r1.toNat < 1152921504606846976) (T : Nat)
    (hT : T = (val3 h + n0.toNat + 18446744073709551616 * n1.toNat + 340282366920938463463374607431768211456 * n2.toNat) * (r0.toNat + 18446744073709551616 * r1.toNat)) :
    val3 (stepT h n0 n1 n2 r0 r1) = T % 1361129467683753853853498429727072845824 + 5 * (T / 1361129467683753853853498429727072845824) ∧ (stepT h n0 n1 n2 r0 r1).2.2.toNat ≤ 4 := by
  have hz : z64.toNat ≤ 1 := by decide
  have hz0 : z64.toNat = 0 := by decide
  obtain ⟨x0, x1, x2⟩ := h
  simp only at h2
  have e1 := add_nat x0 n0 z64 hz
  have c1 := carry3_le (x := x0) (y := n0) hz
  have e2 := add_nat x1 n1 _ c1
  have c2 := carry3_le (x := x1) (y := n1) c1
  unfold stepT
  simp only
  generalize carry3 x0 n0 z64 = cc at *
  generalize carry3 x1 n1 cc = dd at *
  generalize x0 + n0 + z64 = a0 at *
  generalize x1 + n1 + cc = a1 at *
  have e3 : (x2 + (n2 + dd)).toNat = x2.toNat + n2.toNat + dd.toNat := by
    simp only [BitVec.toNat_add]; omega
  generalize x2 + (n2 + dd) = a2 at *
  have hm := mulT_val (a0, a1, a2) r0 r1 (by simp only; omega) h0 h1
  have hv : val3 (a0, a1, a2) = val3 (x0, x1, x2) + n0.toNat + 18446744073709551616 * n1.toNat + 340282366920938463463374607431768211456 * n2.toNat := by
    simp only [val3]; omega
  rw [hv, ← hT] at hm
  obtain ⟨hm1, hm2⟩ := hm
  generalize mulT (a0, a1, a2) r0 r1 = t at *
  obtain ⟨t0, t1, t2, t3⟩ := t
  simp only at hm1 ⊢
  clear hT hv e1 e2 e3 c1 c2
  have l0 := t0.isLt
  have l1 := t1.isLt
  have l2 := t2.isLt
  have l3 := t3.isLt
  have f1 := addT_val (t0, t1, t2 &&& c3u) (t2 &&& ~~~c3u) t3 (by simp only [and3]; omega)
  generalize addT (t0, t1, t2 &&& c3u) (t2 &&& ~~~c3u) t3 = g at *
  simp only [and3, andn3, val3] at f1
  have f2 := addT_val g (t2 >>> 2 ||| t3 <<< 62) (t3 >>> 2) (by omega)
  generalize addT g (t2 >>> 2 ||| t3 <<< 62) (t3 >>> 2) = g2 at *
  simp only [or62, BitVec.toNat_ushiftRight, Nat.shiftRight_eq_div_pow, val3] at f2
  have hv2 : val3 g2 = T % 1361129467683753853853498429727072845824 + 5 * (T / 1361129467683753853853498429727072845824) := by
    simp only [val3]
    omega
  refine ⟨hv2, ?_⟩
  have hlt : val3 g2 < 5 * 340282366920938463463374607431768211456 := by
    rw [hv2]
    omega
  simp only [val3] at hlt
  omega
end Go.Proofs.Ytgjlpnendljcaaa
