/- Poly1305 by digits of 26 bits, in plain numbers. No condition. -/
import Derived.Test.YtikopoimoaddhaaPoly10
import Derived.Test.YtikopoimoaddhaaSymV
namespace Go.Proofs.Ytikopoimoaddhaa
open Go.RowKit
set_option maxRecDepth 100000
set_option maxHeartbeats 4000000
/-! ### lists of numbers -/
def v5 (d : List Nat) : Nat := gtN d 0 + 67108864 * gtN d 1 + 4503599627370496 * gtN d 2 + 302231454903657293676544 * gtN d 3 + 20282409603651670423947251286016 * gtN d 4
def dig5 (d : List Nat) : Prop := d.length = 5 ∧ gtN d 0 < 67108864 ∧ gtN d 1 < 67108864 ∧ gtN d 2 < 67108864 ∧ gtN d 3 < 67108864 ∧ gtN d 4 < 67108864
theorem list5 {d : List Nat} (h : d.length = 5) : ∃ a b c e f, d = [a, b, c, e, f] := by
  match d, h with
  | [a, b, c, e, f], _ => exact ⟨a, b, c, e, f, rfl⟩
/-! ### digits -/
def digK (B : List (BitVec 8)) : Nat → List Nat
  | 0 => [0, 0, 0, 0, 0]
  | i + 1 => if (gt B (i / 8) >>> (i % 8) &&& BitVec.ofInt 8 1) == BitVec.ofInt 8 1 then (if i < 130 then (digK B i).set (i / 26) (gtN (digK B i) (i / 26) + 1 * 2 ^ (i % 26)) else digK B i) else digK B i
theorem digK_length (B : List (BitVec 8)) : ∀ i, (digK B i).length = 5
  | 0 => rfl
  | i + 1 => by
    rw [digK]
    split
    · split <;> simp [digK_length B i]
    · exact digK_length B i
theorem leN_byte : ∀ (B : List (BitVec 8)) (q : Nat), leN B / 256 ^ q % 256 = (gt B q).toNat
  | [], q => by simp [leN, gt]
  | b :: B, 0 => by
    have := b.isLt
    simp only [leN, Nat.pow_zero, Nat.div_one]
    show _ = b.toNat
    omega
  | b :: B, q + 1 => by
    have hb := b.isLt
    have ih := leN_byte B q
    rw [leN, Nat.pow_succ, Nat.mul_comm (256 ^ q) 256, ← Nat.div_div_eq_div_mul, show (b.toNat + 256 * leN B) / 256 = leN B by omega, ih]
    rfl
theorem bit01 (x : BitVec 8) (m : Nat) : ((x >>> m &&& BitVec.ofInt 8 1) == BitVec.ofInt 8 1) = decide (x.toNat / 2 ^ m % 2 = 1) := by
  rw [Bool.eq_iff_iff, beq_iff_eq, decide_eq_true_eq]
  have h : (x >>> m &&& BitVec.ofInt 8 1).toNat = x.toNat / 2 ^ m % 2 := by
    rw [BitVec.toNat_and, BitVec.toNat_ushiftRight, Nat.shiftRight_eq_div_pow, show (BitVec.ofInt 8 1).toNat = 1 by decide, Nat.and_one_is_mod]
  constructor
  · intro e
    rw [← h, e]; decide
  · intro e
    apply BitVec.eq_of_toNat_eq
    rw [h, e]; decide
theorem mod_bit (y n m : Nat) (h : m < n) : y % 2 ^ n / 2 ^ m % 2 = y / 2 ^ m % 2 := by
  have h1 := Nat.testBit_mod_two_pow y n m
  simp only [h, decide_true, Bool.true_and] at h1
  simp only [Nat.testBit_eq_decide_div_mod_eq, decide_eq_decide] at h1
  omega
theorem leN_bit (B : List (BitVec 8)) (i : Nat) : leN B / 2 ^ i % 2 = (gt B (i / 8)).toNat / 2 ^ (i % 8) % 2 := by
  have h1 := leN_byte B (i / 8)
  have h2 := mod_bit (leN B / 256 ^ (i / 8)) 8 (i % 8) (by omega)
  rw [show (2 : Nat) ^ 8 = 256 from rfl, h1, Nat.div_div_eq_div_mul, show (256 : Nat) ^ (i / 8) * 2 ^ (i % 8) = 2 ^ i by rw [show (256 : Nat) = 2 ^ 8 from rfl, ← Nat.pow_mul, ← Nat.pow_add, Nat.div_add_mod]] at h2
  exact h2.symm
theorem v5_set {d : List Nat} (hd : d.length = 5) {j : Nat} (hj : j < 5) (x : Nat) : v5 (d.set j (gtN d j + x)) = v5 d + x * 2 ^ (26 * j) := by
  obtain ⟨a, b, c, e, f, rfl⟩ := list5 hd
  match j, hj with
  | 0, _ => simp only [v5, gtN, List.set_cons_zero, List.getD_cons_zero, List.getD_cons_succ]; omega
  | 1, _ => simp only [v5, gtN, List.set_cons_zero, List.set_cons_succ, List.getD_cons_zero, List.getD_cons_succ]; omega
  | 2, _ => simp only [v5, gtN, List.set_cons_zero, List.set_cons_succ, List.getD_cons_zero, List.getD_cons_succ]; omega
  | 3, _ => simp only [v5, gtN, List.set_cons_zero, List.set_cons_succ, List.getD_cons_zero, List.getD_cons_succ]; omega
  | 4, _ => simp only [v5, gtN, List.set_cons_zero, List.set_cons_succ, List.getD_cons_zero, List.getD_cons_succ]; omega
theorem digK_inv (B : List (BitVec 8)) : ∀ i, i ≤ 130 → v5 (digK B i) = leN B % 2 ^ i ∧ ∀ j, j < 5 → gtN (digK B i) j < 2 ^ (min 26 (i - 26 * j))
  | 0, _ => by
    refine ⟨by simp [digK, v5, gtN, Nat.mod_one], fun j hj => ?_⟩
    match j, hj with
    | 0, _ => simp [digK, gtN]
    | 1, _ => simp [digK, gtN]
    | 2, _ => simp [digK, gtN]
    | 3, _ => simp [digK, gtN]
    | 4, _ => simp [digK, gtN]
  | i + 1, h => by
    obtain ⟨ih1, ih2⟩ := digK_inv B i (by omega)
    have hl := digK_length B i
    have hb := leN_bit B i
    have hm : leN B % 2 ^ (i + 1) = leN B % 2 ^ i + 2 ^ i * (leN B / 2 ^ i % 2) := by rw [Nat.pow_succ, Nat.mod_mul]
    rw [digK, bit01]
    by_cases hbit : (gt B (i / 8)).toNat / 2 ^ (i % 8) % 2 = 1
    · rw [if_pos (by simpa using hbit), if_pos (by omega), hm, hb, hbit, Nat.mul_one, ← ih1]
      generalize digK B i = D at *
      constructor
      · rw [v5_set hl (by omega), Nat.one_mul, ← Nat.pow_add, Nat.add_comm (i % 26), Nat.div_add_mod]
      · intro j hj
        rw [gtN_set (by omega)]
        split
        · rename_i e
          have := ih2 j hj
          rw [← e] at this ⊢
          have e1 : min 26 (i - 26 * (i / 26)) = i % 26 := by omega
          have e2 : min 26 (i + 1 - 26 * (i / 26)) = i % 26 + 1 := by omega
          rw [e1] at this
          rw [e2, Nat.pow_succ]
          omega
        · exact Nat.lt_of_lt_of_le (ih2 j hj) (Nat.pow_le_pow_right (by omega) (by omega))
    · rw [if_neg (by simpa using hbit), hm, hb, show (gt B (i / 8)).toNat / 2 ^ (i % 8) % 2 = 0 by omega, Nat.mul_zero, Nat.add_zero]
      exact ⟨ih1, fun j hj => Nat.lt_of_lt_of_le (ih2 j hj) (Nat.pow_le_pow_right (by omega) (by omega))⟩
theorem digK_more (B : List (BitVec 8)) : ∀ k, digK B (130 + k) = digK B 130
  | 0 => rfl
  | k + 1 => by
    rw [show 130 + (k + 1) = (130 + k) + 1 by omega, digK, digK_more B k]
    split
    · rw [if_neg (by omega)]
    · rfl
theorem digK_val (B : List (BitVec 8)) (hB : leN B < 1361129467683753853853498429727072845824) : v5 (digK B 136) = leN B ∧ dig5 (digK B 136) := by
  obtain ⟨h1, h2⟩ := digK_inv B 130 (Nat.le_refl _)
  have hl := digK_length B 130
  rw [show 136 = 130 + 6 from rfl, digK_more]
  refine ⟨by rw [h1]; exact Nat.mod_eq_of_lt hB, hl, ?_, ?_, ?_, ?_, ?_⟩
  · exact h2 0 (by omega)
  · exact h2 1 (by omega)
  · exact h2 2 (by omega)
  · exact h2 3 (by omega)
  · exact h2 4 (by omega)
/-! ### carried -/
def carS (M : Nat) (d : List Nat) (i : Nat) : List Nat :=
  if i < 4 then (d.set i (gtN d i - gtN d i / M * M)).set (i + 1) (gtN (d.set i (gtN d i - gtN d i / M * M)) (i + 1) + gtN d i / M)
  else (d.set i (gtN d i - gtN d i / M * M)).set 0 (gtN (d.set i (gtN d i - gtN d i / M * M)) 0 + 5 * (gtN d i / M))
def carI (M : Nat) (d : List Nat) : Nat → List Nat
  | 0 => d
  | i + 1 => carS M (carI M d i) i
def carR (M : Nat) (d : List Nat) : Nat → List Nat
  | 0 => d
  | r + 1 => carI M (carR M d r) 5
theorem carS_length (M : Nat) (d : List Nat) (i : Nat) : (carS M d i).length = d.length := by
  unfold carS
  split <;> simp
theorem carI_length (M : Nat) (d : List Nat) : ∀ i, (carI M d i).length = d.length
  | 0 => rfl
  | i + 1 => by rw [carI, carS_length, carI_length M d i]
theorem carR_length (M : Nat) (d : List Nat) : ∀ i, (carR M d i).length = d.length
  | 0 => rfl
  | i + 1 => by rw [carR, carI_length, carR_length M d i]
def s5 (d : List Nat) : Nat := gtN d 0 + gtN d 1 + gtN d 2 + gtN d 3 + gtN d 4
theorem s5_le {d : List Nat} {j : Nat} (hj : j < 5) : gtN d j ≤ s5 d := by
  unfold s5
  match j, hj with
  | 0, _ => omega
  | 1, _ => omega
  | 2, _ => omega
  | 3, _ => omega
  | 4, _ => omega
theorem s5_set {d : List Nat} (hd : d.length = 5) {j : Nat} (hj : j < 5) (x : Nat) : s5 (d.set j x) + gtN d j = s5 d + x := by
  obtain ⟨a, b, c, e, f, rfl⟩ := list5 hd
  match j, hj with
  | 0, _ => show x + b + c + e + f + a = a + b + c + e + f + x; omega
  | 1, _ => show a + x + c + e + f + b = a + b + c + e + f + x; omega
  | 2, _ => show a + b + x + e + f + c = a + b + c + e + f + x; omega
  | 3, _ => show a + b + c + x + f + e = a + b + c + e + f + x; omega
  | 4, _ => show a + b + c + e + x + f = a + b + c + e + f + x; omega
theorem carS_s5 {M : Nat} (hM : 5 ≤ M) {d : List Nat} (hd : d.length = 5) {i : Nat} (hi : i < 5) : s5 (carS M d i) ≤ s5 d := by
  have h1 := s5_set hd hi (gtN d i - gtN d i / M * M)
  have h2 := Nat.div_mul_le_self (gtN d i) M
  have h3 : gtN d i / M * 5 ≤ gtN d i / M * M := Nat.mul_le_mul_left _ hM
  have hl : (d.set i (gtN d i - gtN d i / M * M)).length = 5 := by simp [hd]
  unfold carS
  generalize gtN d i / M * M = p at *
  generalize gtN d i / M = c at *
  generalize d.set i (gtN d i - p) = D at *
  split
  · have h4 := s5_set hl (show i + 1 < 5 by omega) (gtN D (i + 1) + c)
    omega
  · have h4 := s5_set hl (show 0 < 5 by omega) (gtN D 0 + 5 * c)
    omega
theorem carI_s5 {M : Nat} (hM : 5 ≤ M) {d : List Nat} (hd : d.length = 5) : ∀ i, i ≤ 5 → s5 (carI M d i) ≤ s5 d
  | 0, _ => Nat.le_refl _
  | i + 1, h => Nat.le_trans (carS_s5 hM ((carI_length M d i).trans hd) (by omega)) (carI_s5 hM hd i (by omega))
theorem carR_s5 {M : Nat} (hM : 5 ≤ M) {d : List Nat} (hd : d.length = 5) : ∀ r, s5 (carR M d r) ≤ s5 d
  | 0 => Nat.le_refl _
  | r + 1 => Nat.le_trans (carI_s5 hM ((carR_length M d r).trans hd) 5 (Nat.le_refl _)) (carR_s5 hM hd r)
theorem carI_five (M a b c e f : Nat) : ∃ x0 x1 x2 x3 x4, x0 = a / M ∧ x1 = (b + x0) / M ∧ x2 = (c + x1) / M ∧ x3 = (e + x2) / M ∧ x4 = (f + x3) / M ∧
    carI M [a, b, c, e, f] 5 = [a - x0 * M + 5 * x4, b + x0 - x1 * M, c + x1 - x2 * M, e + x2 - x3 * M, f + x3 - x4 * M] :=
  ⟨_, _, _, _, _, rfl, rfl, rfl, rfl, rfl, rfl⟩
theorem car_one {M a b c e f : Nat} (hM : M = 67108864) : ∃ a1 b1 c1 e1 f1 x0 x1 x2 x3 x4, carI M [a, b, c, e, f] 5 = [a1, b1, c1, e1, f1] ∧
    a1 = a % 67108864 + 5 * x4 ∧ b1 = (b + x0) % 67108864 ∧ c1 = (c + x1) % 67108864 ∧ e1 = (e + x2) % 67108864 ∧ f1 = (f + x3) % 67108864 ∧
    x0 = a / 67108864 ∧ x1 = (b + x0) / 67108864 ∧ x2 = (c + x1) / 67108864 ∧ x3 = (e + x2) / 67108864 ∧ x4 = (f + x3) / 67108864 := by
  obtain ⟨x0, x1, x2, x3, x4, h0, h1, h2, h3, h4, hx⟩ := carI_five M a b c e f
  refine ⟨_, _, _, _, _, x0, x1, x2, x3, x4, hx, ?_⟩
  subst hM
  omega
theorem car_round {a b c e f a1 b1 c1 e1 f1 x0 x1 x2 x3 x4 : Nat}
    (ha : a1 = a % 67108864 + 5 * x4) (hb : b1 = (b + x0) % 67108864) (hc : c1 = (c + x1) % 67108864) (he : e1 = (e + x2) % 67108864) (hf : f1 = (f + x3) % 67108864)
    (h0 : x0 = a / 67108864) (h1 : x1 = (b + x0) / 67108864) (h2 : x2 = (c + x1) / 67108864) (h3 : x3 = (e + x2) / 67108864) (h4 : x4 = (f + x3) / 67108864) :
    a + 67108864 * b + 4503599627370496 * c + 302231454903657293676544 * e + 20282409603651670423947251286016 * f = a1 + 67108864 * b1 + 4503599627370496 * c1 + 302231454903657293676544 * e1 + 20282409603651670423947251286016 * f1 + 1361129467683753853853498429727072845819 * x4 := by
  omega
theorem dlt {x n B : Nat} (hx : x = n / 67108864) (hn : n < 67108864 * B) : x < B := by rw [hx]; exact Nat.div_lt_of_lt_mul hn
theorem mlt {x n : Nat} (hx : x = n % 67108864) : x < 67108864 := by rw [hx]; exact Nat.mod_lt _ (by decide)
theorem lim {x n m B B' : Nat} (hx : x = n % 67108864 + 5 * m) (hm : m < B) (hb : 67108864 + 5 * B ≤ B') : x < B' := by
  have := Nat.mod_lt n (show 67108864 > 0 by decide)
  omega
theorem car_b1 {a b c e f a1 b1 c1 e1 f1 x0 x1 x2 x3 x4 : Nat}
    (ha : a1 = a % 67108864 + 5 * x4) (hb : b1 = (b + x0) % 67108864) (hc : c1 = (c + x1) % 67108864) (he : e1 = (e + x2) % 67108864) (hf : f1 = (f + x3) % 67108864)
    (h0 : x0 = a / 67108864) (h1 : x1 = (b + x0) / 67108864) (h2 : x2 = (c + x1) / 67108864) (h3 : x3 = (e + x2) / 67108864) (h4 : x4 = (f + x3) / 67108864) (hs : a < 576460752303423488 ∧ b < 576460752303423488 ∧ c < 576460752303423488 ∧ e < 576460752303423488 ∧ f < 576460752303423488) : a1 < 137438953472 ∧ b1 < 67108864 ∧ c1 < 67108864 ∧ e1 < 67108864 ∧ f1 < 67108864 := by
  obtain ⟨s0, s1, s2, s3, s4⟩ := hs
  have g0 : x0 < 17179869184 := dlt h0 (Nat.lt_of_lt_of_le s0 (by decide))
  have g1 : x1 < 17179869184 := dlt h1 (Nat.lt_of_lt_of_le (Nat.add_lt_add s1 g0) (by decide))
  have g2 : x2 < 17179869184 := dlt h2 (Nat.lt_of_lt_of_le (Nat.add_lt_add s2 g1) (by decide))
  have g3 : x3 < 17179869184 := dlt h3 (Nat.lt_of_lt_of_le (Nat.add_lt_add s3 g2) (by decide))
  have g4 : x4 < 17179869184 := dlt h4 (Nat.lt_of_lt_of_le (Nat.add_lt_add s4 g3) (by decide))
  exact ⟨lim ha g4 (by decide), mlt hb, mlt hc, mlt he, mlt hf⟩
theorem car_b2 {a b c e f a1 b1 c1 e1 f1 x0 x1 x2 x3 x4 : Nat}
    (ha : a1 = a % 67108864 + 5 * x4) (hb : b1 = (b + x0) % 67108864) (hc : c1 = (c + x1) % 67108864) (he : e1 = (e + x2) % 67108864) (hf : f1 = (f + x3) % 67108864)
    (h0 : x0 = a / 67108864) (h1 : x1 = (b + x0) / 67108864) (h2 : x2 = (c + x1) / 67108864) (h3 : x3 = (e + x2) / 67108864) (h4 : x4 = (f + x3) / 67108864) (hs : a < 137438953472 ∧ b < 67108864 ∧ c < 67108864 ∧ e < 67108864 ∧ f < 67108864) : a1 < 67108874 ∧ b1 < 67108864 ∧ c1 < 67108864 ∧ e1 < 67108864 ∧ f1 < 67108864 := by
  obtain ⟨s0, s1, s2, s3, s4⟩ := hs
  have g0 : x0 < 2048 := dlt h0 (Nat.lt_of_lt_of_le s0 (by decide))
  have g1 : x1 < 2 := dlt h1 (Nat.lt_of_lt_of_le (Nat.add_lt_add s1 g0) (by decide))
  have g2 : x2 < 2 := dlt h2 (Nat.lt_of_lt_of_le (Nat.add_lt_add s2 g1) (by decide))
  have g3 : x3 < 2 := dlt h3 (Nat.lt_of_lt_of_le (Nat.add_lt_add s3 g2) (by decide))
  have g4 : x4 < 2 := dlt h4 (Nat.lt_of_lt_of_le (Nat.add_lt_add s4 g3) (by decide))
  exact ⟨lim ha g4 (by decide), mlt hb, mlt hc, mlt he, mlt hf⟩
theorem car_b3 {a b c e f a1 b1 c1 e1 f1 x0 x1 x2 x3 x4 : Nat}
    (ha : a1 = a % 67108864 + 5 * x4) (hb : b1 = (b + x0) % 67108864) (hc : c1 = (c + x1) % 67108864) (he : e1 = (e + x2) % 67108864) (hf : f1 = (f + x3) % 67108864)
    (h0 : x0 = a / 67108864) (h1 : x1 = (b + x0) / 67108864) (h2 : x2 = (c + x1) / 67108864) (h3 : x3 = (e + x2) / 67108864) (h4 : x4 = (f + x3) / 67108864) (hs : a < 67108874 ∧ b < 67108864 ∧ c < 67108864 ∧ e < 67108864 ∧ f < 67108864) : a1 < 67108864 ∧ b1 < 67108864 ∧ c1 < 67108864 ∧ e1 < 67108864 ∧ f1 < 67108864 := by
  obtain ⟨s0, s1, s2, s3, s4⟩ := hs
  refine ⟨?_, mlt hb, mlt hc, mlt he, mlt hf⟩
  have g0 : x0 < 2 := dlt h0 (Nat.lt_of_lt_of_le s0 (by decide))
  have g1 : x1 < 2 := dlt h1 (Nat.lt_of_lt_of_le (Nat.add_lt_add s1 g0) (by decide))
  have g2 : x2 < 2 := dlt h2 (Nat.lt_of_lt_of_le (Nat.add_lt_add s2 g1) (by decide))
  have g3 : x3 < 2 := dlt h3 (Nat.lt_of_lt_of_le (Nat.add_lt_add s3 g2) (by decide))
  have g4 : x4 < 2 := dlt h4 (Nat.lt_of_lt_of_le (Nat.add_lt_add s4 g3) (by decide))
  rcases Nat.lt_or_ge a 67108864 with h | h
  · have k0 : x0 = 0 := h0.trans (Nat.div_eq_of_lt h)
    have k1 : x1 = 0 := by rw [h1, k0]; exact Nat.div_eq_of_lt s1
    have k2 : x2 = 0 := by rw [h2, k1]; exact Nat.div_eq_of_lt s2
    have k3 : x3 = 0 := by rw [h3, k2]; exact Nat.div_eq_of_lt s3
    have k4 : x4 = 0 := by rw [h4, k3]; exact Nat.div_eq_of_lt s4
    rw [ha, k4]
    exact Nat.mod_lt _ (by decide)
  · clear hb hc he hf h0 h1 h2 h3 h4 g0 g1 g2 g3 s1 s2 s3 s4
    omega
theorem v5_five (a b c e f : Nat) : v5 [a, b, c, e, f] = a + 67108864 * b + 4503599627370496 * c + 302231454903657293676544 * e + 20282409603651670423947251286016 * f := by
  simp only [v5, gtN, List.getD_cons_zero, List.getD_cons_succ]
theorem carR_val {M : Nat} (hM : M = 67108864) {d : List Nat} (hd : d.length = 5) (hs : s5 d < 576460752303423488) : dig5 (carR M d 3) ∧ v5 (carR M d 3) % PP = v5 d % PP := by
  obtain ⟨a, b, c, e, f, rfl⟩ := list5 hd
  have hs : a + b + c + e + f < 576460752303423488 := hs
  have hs5 : a < 576460752303423488 ∧ b < 576460752303423488 ∧ c < 576460752303423488 ∧ e < 576460752303423488 ∧ f < 576460752303423488 := by omega
  obtain ⟨a1, b1, c1, e1, f1, x0, x1, x2, x3, x4, hx, p0, p1, p2, p3, p4, p5, p6, p7, p8, p9⟩ := car_one (a := a) (b := b) (c := c) (e := e) (f := f) hM
  have w1 := car_round p0 p1 p2 p3 p4 p5 p6 p7 p8 p9
  have q1 := car_b1 p0 p1 p2 p3 p4 p5 p6 p7 p8 p9 hs5
  clear p0 p1 p2 p3 p4 p5 p6 p7 p8 p9
  obtain ⟨a2, b2, c2, e2, f2, y0, y1, y2, y3, y4, hy, p0, p1, p2, p3, p4, p5, p6, p7, p8, p9⟩ := car_one (a := a1) (b := b1) (c := c1) (e := e1) (f := f1) hM
  have w2 := car_round p0 p1 p2 p3 p4 p5 p6 p7 p8 p9
  have q2 := car_b2 p0 p1 p2 p3 p4 p5 p6 p7 p8 p9 q1
  clear p0 p1 p2 p3 p4 p5 p6 p7 p8 p9 q1
  obtain ⟨a3, b3, c3, e3, f3, z0, z1, z2, z3, z4, hz, p0, p1, p2, p3, p4, p5, p6, p7, p8, p9⟩ := car_one (a := a2) (b := b2) (c := c2) (e := e2) (f := f2) hM
  have w3 := car_round p0 p1 p2 p3 p4 p5 p6 p7 p8 p9
  have q3 := car_b3 p0 p1 p2 p3 p4 p5 p6 p7 p8 p9 q2
  have hr : carR M [a, b, c, e, f] 3 = [a3, b3, c3, e3, f3] := by
    rw [carR, carR, carR, carR, hx, hy, hz]
  rw [hr]
  refine ⟨⟨rfl, q3.1, q3.2.1, q3.2.2.1, q3.2.2.2.1, q3.2.2.2.2⟩, ?_⟩
  rw [v5_five, v5_five]
  clear p0 p1 p2 p3 p4 p5 p6 p7 p8 p9 q2 q3 hr hx hy hz hs hs5 hd
  generalize a + 67108864 * b + 4503599627370496 * c + 302231454903657293676544 * e + 20282409603651670423947251286016 * f = A at *
  generalize a1 + 67108864 * b1 + 4503599627370496 * c1 + 302231454903657293676544 * e1 + 20282409603651670423947251286016 * f1 = A1 at *
  generalize a2 + 67108864 * b2 + 4503599627370496 * c2 + 302231454903657293676544 * e2 + 20282409603651670423947251286016 * f2 = A2 at *
  generalize a3 + 67108864 * b3 + 4503599627370496 * c3 + 302231454903657293676544 * e3 + 20282409603651670423947251286016 * f3 = A3 at *
  rw [w1, w2, w3]
  have hPP : ∀ X y : Nat, (X + 1361129467683753853853498429727072845819 * y) % PP = X % PP := fun X y => Nat.add_mul_mod_self_left X PP y
  rw [hPP, hPP, hPP]
/-! ### products -/
def timI (a b : List Nat) (D : List Nat) (i : Nat) : Nat → List Nat
  | 0 => D
  | k + 1 => (timI a b D i k).set ((i + k) % 5) (gtN (timI a b D i k) ((i + k) % 5) + (if 5 ≤ i + k then 5 * (gtN a i * gtN b k) else gtN a i * gtN b k))
def timO (a b : List Nat) : Nat → List Nat
  | 0 => [0, 0, 0, 0, 0]
  | i + 1 => timI a b (timO a b i) i 5
theorem timI_length (a b D : List Nat) (i : Nat) : ∀ k, (timI a b D i k).length = D.length
  | 0 => rfl
  | k + 1 => by rw [timI, List.length_set, timI_length a b D i k]
theorem timO_length (a b : List Nat) : ∀ i, (timO a b i).length = 5
  | 0 => rfl
  | i + 1 => by rw [timO, timI_length, timO_length a b i]
theorem timI_s5 {a b D : List Nat} {i : Nat} (hD : D.length = 5) (X : Nat) (hx : ∀ k, k < 5 → gtN a i * gtN b k ≤ X) : ∀ k, k ≤ 5 → s5 (timI a b D i k) ≤ s5 D + k * (5 * X)
  | 0, _ => by rw [Nat.zero_mul]; exact Nat.le_refl _
  | k + 1, h => by
    have ih := timI_s5 hD X hx k (by omega)
    have hl := (timI_length a b D i k).trans hD
    have hs := s5_set hl (show (i + k) % 5 < 5 by omega) (gtN (timI a b D i k) ((i + k) % 5) + (if 5 ≤ i + k then 5 * (gtN a i * gtN b k) else gtN a i * gtN b k))
    have hk := hx k (by omega)
    rw [timI, show (k + 1) * (5 * X) = k * (5 * X) + 5 * X from Nat.succ_mul k (5 * X)]
    generalize gtN a i * gtN b k = p at *
    have : (if 5 ≤ i + k then 5 * p else p) ≤ 5 * X := by split <;> omega
    omega
theorem timO_s5 {a b : List Nat} (X : Nat) (hx : ∀ i k, i < 5 → k < 5 → gtN a i * gtN b k ≤ X) : ∀ i, i ≤ 5 → s5 (timO a b i) ≤ i * (25 * X)
  | 0, _ => by rw [Nat.zero_mul]; exact Nat.le_refl _
  | i + 1, h => by
    have ih := timO_s5 X hx i (by omega)
    have := timI_s5 (timO_length a b i) X (fun k hk => hx i k (by omega) hk) 5 (Nat.le_refl _)
    rw [timO, show (i + 1) * (25 * X) = i * (25 * X) + 25 * X from Nat.succ_mul i (25 * X)]
    omega
theorem timI_five (a b : List Nat) (x0 x1 x2 x3 x4 : Nat) : timI a b [x0, x1, x2, x3, x4] 0 5 = [x0 + gtN a 0 * gtN b 0, x1 + gtN a 0 * gtN b 1, x2 + gtN a 0 * gtN b 2, x3 + gtN a 0 * gtN b 3, x4 + gtN a 0 * gtN b 4] ∧
    timI a b [x0, x1, x2, x3, x4] 1 5 = [x0 + 5 * (gtN a 1 * gtN b 4), x1 + gtN a 1 * gtN b 0, x2 + gtN a 1 * gtN b 1, x3 + gtN a 1 * gtN b 2, x4 + gtN a 1 * gtN b 3] ∧
    timI a b [x0, x1, x2, x3, x4] 2 5 = [x0 + 5 * (gtN a 2 * gtN b 3), x1 + 5 * (gtN a 2 * gtN b 4), x2 + gtN a 2 * gtN b 0, x3 + gtN a 2 * gtN b 1, x4 + gtN a 2 * gtN b 2] ∧
    timI a b [x0, x1, x2, x3, x4] 3 5 = [x0 + 5 * (gtN a 3 * gtN b 2), x1 + 5 * (gtN a 3 * gtN b 3), x2 + 5 * (gtN a 3 * gtN b 4), x3 + gtN a 3 * gtN b 0, x4 + gtN a 3 * gtN b 1] ∧
    timI a b [x0, x1, x2, x3, x4] 4 5 = [x0 + 5 * (gtN a 4 * gtN b 1), x1 + 5 * (gtN a 4 * gtN b 2), x2 + 5 * (gtN a 4 * gtN b 3), x3 + 5 * (gtN a 4 * gtN b 4), x4 + gtN a 4 * gtN b 0] :=
  ⟨rfl, rfl, rfl, rfl, rfl⟩
theorem row5 (x b0 b1 b2 b3 b4 : Nat) : x * (b0 + 67108864 * b1 + 4503599627370496 * b2 + 302231454903657293676544 * b3 + 20282409603651670423947251286016 * b4) = x * b0 + 67108864 * (x * b1) + 4503599627370496 * (x * b2) + 302231454903657293676544 * (x * b3) + 20282409603651670423947251286016 * (x * b4) := by
  simp only [Nat.mul_add, Nat.mul_left_comm]
theorem col5 (a0 a1 a2 a3 a4 V : Nat) : (a0 + 67108864 * a1 + 4503599627370496 * a2 + 302231454903657293676544 * a3 + 20282409603651670423947251286016 * a4) * V = a0 * V + 67108864 * (a1 * V) + 4503599627370496 * (a2 * V) + 302231454903657293676544 * (a3 * V) + 20282409603651670423947251286016 * (a4 * V) := by
  simp only [Nat.add_mul, Nat.mul_assoc]
theorem timO_five (a0 a1 a2 a3 a4 b0 b1 b2 b3 b4 : Nat) : timO [a0, a1, a2, a3, a4] [b0, b1, b2, b3, b4] 5 = [0 + a0 * b0 + 5 * (a1 * b4) + 5 * (a2 * b3) + 5 * (a3 * b2) + 5 * (a4 * b1), 0 + a0 * b1 + a1 * b0 + 5 * (a2 * b4) + 5 * (a3 * b3) + 5 * (a4 * b2), 0 + a0 * b2 + a1 * b1 + a2 * b0 + 5 * (a3 * b4) + 5 * (a4 * b3), 0 + a0 * b3 + a1 * b2 + a2 * b1 + a3 * b0 + 5 * (a4 * b4), 0 + a0 * b4 + a1 * b3 + a2 * b2 + a3 * b1 + a4 * b0] := by
  show timI _ _ (timI _ _ (timI _ _ (timI _ _ (timI _ _ [0, 0, 0, 0, 0] 0 5) 1 5) 2 5) 3 5) 4 5 = _
  rw [(timI_five _ _ _ _ _ _ _).1, (timI_five _ _ _ _ _ _ _).2.1, (timI_five _ _ _ _ _ _ _).2.2.1, (timI_five _ _ _ _ _ _ _).2.2.2.1, (timI_five _ _ _ _ _ _ _).2.2.2.2]
  simp only [gtN, List.getD_cons_zero, List.getD_cons_succ]
theorem prod_id (p00 p01 p02 p03 p04 p10 p11 p12 p13 p14 p20 p21 p22 p23 p24 p30 p31 p32 p33 p34 p40 p41 p42 p43 p44 : Nat) :
    (p00 + 67108864 * p01 + 4503599627370496 * p02 + 302231454903657293676544 * p03 + 20282409603651670423947251286016 * p04) +
      67108864 * (p10 + 67108864 * p11 + 4503599627370496 * p12 + 302231454903657293676544 * p13 + 20282409603651670423947251286016 * p14) +
      4503599627370496 * (p20 + 67108864 * p21 + 4503599627370496 * p22 + 302231454903657293676544 * p23 + 20282409603651670423947251286016 * p24) +
      302231454903657293676544 * (p30 + 67108864 * p31 + 4503599627370496 * p32 + 302231454903657293676544 * p33 + 20282409603651670423947251286016 * p34) +
      20282409603651670423947251286016 * (p40 + 67108864 * p41 + 4503599627370496 * p42 + 302231454903657293676544 * p43 + 20282409603651670423947251286016 * p44) =
    (0 + p00 + 5 * p14 + 5 * p23 + 5 * p32 + 5 * p41) + 67108864 * (0 + p01 + p10 + 5 * p24 + 5 * p33 + 5 * p42) + 4503599627370496 * (0 + p02 + p11 + p20 + 5 * p34 + 5 * p43) + 302231454903657293676544 * (0 + p03 + p12 + p21 + p30 + 5 * p44) + 20282409603651670423947251286016 * (0 + p04 + p13 + p22 + p31 + p40) +
      1361129467683753853853498429727072845819 * (p14 + p23 + p32 + p41 + 67108864 * (p24 + p33 + p42) + 4503599627370496 * (p34 + p43) + 302231454903657293676544 * p44) := by
  omega
theorem timO_val {a b : List Nat} (ha : a.length = 5) (hb : b.length = 5) : v5 (timO a b 5) % PP = (v5 a * v5 b) % PP := by
  obtain ⟨a0, a1, a2, a3, a4, rfl⟩ := list5 ha
  obtain ⟨b0, b1, b2, b3, b4, rfl⟩ := list5 hb
  have hPP : ∀ X y : Nat, (X + 1361129467683753853853498429727072845819 * y) % PP = X % PP := fun X y => Nat.add_mul_mod_self_left X PP y
  rw [timO_five, v5_five, v5_five, v5_five, col5, row5 a0, row5 a1, row5 a2, row5 a3, row5 a4, prod_id, hPP]
/-! ### less P as often as may be -/
def chS (M : Nat) (e : List Nat) (i : Nat) : List Nat := (e.set i (gtN e i - gtN e i / M * M)).set (i + 1) (gtN (e.set i (gtN e i - gtN e i / M * M)) (i + 1) + gtN e i / M)
def chI (M : Nat) (e : List Nat) : Nat → List Nat
  | 0 => e
  | i + 1 => chS M (chI M e i) i
theorem chI_length (M : Nat) (e : List Nat) : ∀ i, (chI M e i).length = e.length
  | 0 => rfl
  | i + 1 => by rw [chI, chS, List.length_set, List.length_set, chI_length M e i]
def lst1 (M : Nat) (d : List Nat) : List Nat :=
  if 67108864 ≤ gtN (chI M (d.set 0 (gtN d 0 + 5)) 4) 4 then (chI M (d.set 0 (gtN d 0 + 5)) 4).set 4 (gtN (chI M (d.set 0 (gtN d 0 + 5)) 4) 4 - 67108864) else d
theorem chI_four (M a b c e f : Nat) : ∃ x0 x1 x2 x3, x0 = a / M ∧ x1 = (b + x0) / M ∧ x2 = (c + x1) / M ∧ x3 = (e + x2) / M ∧
    chI M [a, b, c, e, f] 4 = [a - x0 * M, b + x0 - x1 * M, c + x1 - x2 * M, e + x2 - x3 * M, f + x3] :=
  ⟨_, _, _, _, rfl, rfl, rfl, rfl, rfl⟩
theorem ch_one {M a b c e f : Nat} (hM : M = 67108864) : ∃ a1 b1 c1 e1 x0 x1 x2 x3, chI M [a, b, c, e, f] 4 = [a1, b1, c1, e1, f + x3] ∧
    a1 = a % 67108864 ∧ b1 = (b + x0) % 67108864 ∧ c1 = (c + x1) % 67108864 ∧ e1 = (e + x2) % 67108864 ∧
    x0 = a / 67108864 ∧ x1 = (b + x0) / 67108864 ∧ x2 = (c + x1) / 67108864 ∧ x3 = (e + x2) / 67108864 := by
  obtain ⟨x0, x1, x2, x3, h0, h1, h2, h3, hx⟩ := chI_four M a b c e f
  refine ⟨_, _, _, _, x0, x1, x2, x3, hx, ?_⟩
  subst hM
  omega
theorem ch_round {a b c e f a1 b1 c1 e1 x0 x1 x2 x3 : Nat}
    (ha : a1 = a % 67108864) (hb : b1 = (b + x0) % 67108864) (hc : c1 = (c + x1) % 67108864) (he : e1 = (e + x2) % 67108864)
    (h0 : x0 = a / 67108864) (h1 : x1 = (b + x0) / 67108864) (h2 : x2 = (c + x1) / 67108864) (h3 : x3 = (e + x2) / 67108864) :
    a + 67108864 * b + 4503599627370496 * c + 302231454903657293676544 * e + 20282409603651670423947251286016 * f = a1 + 67108864 * b1 + 4503599627370496 * c1 + 302231454903657293676544 * e1 + 20282409603651670423947251286016 * (f + x3) := by
  omega
theorem five_lt {a1 b1 c1 e1 g : Nat} (ha : a1 < 67108864) (hb : b1 < 67108864) (hc : c1 < 67108864) (he : e1 < 67108864) (hg : g < 67108864) : a1 + 67108864 * b1 + 4503599627370496 * c1 + 302231454903657293676544 * e1 + 20282409603651670423947251286016 * g < 1361129467683753853853498429727072845824 := by omega
theorem lst1_val {M : Nat} (hM : M = 67108864) {d : List Nat} (hd : dig5 d) : dig5 (lst1 M d) ∧ v5 (lst1 M d) = if PP ≤ v5 d then v5 d - PP else v5 d := by
  obtain ⟨hl, g0, g1, g2, g3, g4⟩ := hd
  obtain ⟨a, b, c, e, f, rfl⟩ := list5 hl
  have g0 : a < 67108864 := g0
  have g1 : b < 67108864 := g1
  have g2 : c < 67108864 := g2
  have g3 : e < 67108864 := g3
  have g4 : f < 67108864 := g4
  obtain ⟨a1, b1, c1, e1, x0, x1, x2, x3, hx, p0, p1, p2, p3, p4, p5, p6, p7⟩ := ch_one (a := a + 5) (b := b) (c := c) (e := e) (f := f) hM
  have hr := ch_round (f := f) p0 p1 p2 p3 p4 p5 p6 p7
  have k0 : x0 < 2 := dlt p4 (Nat.lt_of_lt_of_le (Nat.add_lt_add_right g0 5) (by decide))
  have k1 : x1 < 2 := dlt p5 (Nat.lt_of_lt_of_le (Nat.add_lt_add g1 k0) (by decide))
  have k2 : x2 < 2 := dlt p6 (Nat.lt_of_lt_of_le (Nat.add_lt_add g2 k1) (by decide))
  have k3 : x3 < 2 := dlt p7 (Nat.lt_of_lt_of_le (Nat.add_lt_add g3 k2) (by decide))
  have m0 := mlt p0
  have m1 := mlt p1
  have m2 := mlt p2
  have m3 := mlt p3
  have hs : [a, b, c, e, f].set 0 (gtN [a, b, c, e, f] 0 + 5) = [a + 5, b, c, e, f] := rfl
  have hPP : PP = 1361129467683753853853498429727072845819 := rfl
  clear p0 p1 p2 p3 p4 p5 p6 p7 k0 k1 k2
  unfold lst1
  rw [hs, hx]
  have hg : ∀ p q r s t : Nat, gtN [p, q, r, s, t] 4 = t := fun _ _ _ _ _ => rfl
  have hst : ∀ p q r s t u : Nat, [p, q, r, s, t].set 4 u = [p, q, r, s, u] := fun _ _ _ _ _ _ => rfl
  rw [hg, hst]
  by_cases h : 67108864 ≤ f + x3
  · obtain ⟨g, hgg⟩ : ∃ g, f + x3 = g + 67108864 := ⟨f + x3 - 67108864, by omega⟩
    have hg4 : g < 67108864 := by omega
    rw [if_pos h, v5_five, v5_five, hPP, hgg, Nat.add_sub_cancel]
    rw [hgg] at hr
    refine ⟨⟨rfl, m0, m1, m2, m3, hg4⟩, ?_⟩
    have e1 : a + 67108864 * b + 4503599627370496 * c + 302231454903657293676544 * e + 20282409603651670423947251286016 * f = a1 + 67108864 * b1 + 4503599627370496 * c1 + 302231454903657293676544 * e1 + 20282409603651670423947251286016 * g + 1361129467683753853853498429727072845819 := by
      clear m0 m1 m2 m3 hg4 hgg h k3 hx hs hg hst hPP g0 g1 g2 g3 g4 hl
      omega
    rw [e1, if_pos (Nat.le_add_left _ _), Nat.add_sub_cancel]
  · have hf : f + x3 < 67108864 := Nat.lt_of_not_le h
    have hlt := five_lt m0 m1 m2 m3 hf
    rw [if_neg h, v5_five, hPP]
    refine ⟨⟨rfl, g0, g1, g2, g3, g4⟩, ?_⟩
    have e1 : a + 67108864 * b + 4503599627370496 * c + 302231454903657293676544 * e + 20282409603651670423947251286016 * f < 1361129467683753853853498429727072845819 := by
      rw [← hr] at hlt
      clear m0 m1 m2 m3 hf h k3 hx hs hg hst hPP g0 g1 g2 g3 g4 hl hr
      omega
    rw [if_neg (Nat.not_le_of_lt e1)]
/-! ### the bytes of the tag -/
theorem v5_digit {d : List Nat} (hd : dig5 d) {j : Nat} (hj : j < 5) : v5 d / 2 ^ (26 * j) % 67108864 = gtN d j := by
  obtain ⟨hl, g0, g1, g2, g3, g4⟩ := hd
  unfold v5
  match j, hj with
  | 0, _ => generalize gtN d 0 = a at *; generalize gtN d 1 = b at *; generalize gtN d 2 = c at *; generalize gtN d 3 = e at *; generalize gtN d 4 = f at *; omega
  | 1, _ => generalize gtN d 0 = a at *; generalize gtN d 1 = b at *; generalize gtN d 2 = c at *; generalize gtN d 3 = e at *; generalize gtN d 4 = f at *; omega
  | 2, _ => generalize gtN d 0 = a at *; generalize gtN d 1 = b at *; generalize gtN d 2 = c at *; generalize gtN d 3 = e at *; generalize gtN d 4 = f at *; omega
  | 3, _ => generalize gtN d 0 = a at *; generalize gtN d 1 = b at *; generalize gtN d 2 = c at *; generalize gtN d 3 = e at *; generalize gtN d 4 = f at *; omega
  | 4, _ => generalize gtN d 0 = a at *; generalize gtN d 1 = b at *; generalize gtN d 2 = c at *; generalize gtN d 3 = e at *; generalize gtN d 4 = f at *; omega
theorem v5_bit {d : List Nat} (hd : dig5 d) {i : Nat} (hi : i < 130) : (gtN d (i / 26) / 2 ^ (i % 26) &&& 1) = v5 d / 2 ^ i % 2 := by
  have h1 := v5_digit hd (show i / 26 < 5 by omega)
  have h2 := mod_bit (v5 d / 2 ^ (26 * (i / 26))) 26 (i % 26) (by omega)
  rw [Nat.and_one_is_mod, ← h1, show (67108864 : Nat) = 2 ^ 26 from rfl, h2, Nat.div_div_eq_div_mul, ← Nat.pow_add, Nat.div_add_mod]
def xK (d : List Nat) (i : Nat) (x : Nat) : Nat → Nat
  | 0 => x
  | k + 1 => xK d i x k + (gtN d ((8 * i + k) / 26) / 2 ^ ((8 * i + k) % 26) &&& 1) * 2 ^ k
theorem xK_val {d : List Nat} (hd : dig5 d) {i : Nat} (hi : i < 16) (x : Nat) : ∀ k, k ≤ 8 → xK d i x k = x + v5 d / 2 ^ (8 * i) % 2 ^ k
  | 0, _ => by simp [xK, Nat.mod_one]
  | k + 1, h => by
    rw [xK, xK_val hd hi x k (by omega), v5_bit hd (by omega), Nat.pow_add 2 (8 * i) k, ← Nat.div_div_eq_div_mul, Nat.pow_succ, Nat.mod_mul, Nat.mul_comm (2 ^ k)]
    omega
def tcK (s : List (BitVec 8)) (d : List Nat) : Nat → Nat
  | 0 => 0
  | i + 1 => xK d i ((gt s i).toNat + tcK s d i) 8 / 2 ^ 8
def toP (s : List (BitVec 8)) (d : List Nat) : Nat → List (BitVec 8)
  | 0 => []
  | i + 1 => toP s d i ++ [BitVec.ofNat 8 (xK d i ((gt s i).toNat + tcK s d i) 8)]
theorem toP_length (s : List (BitVec 8)) (d : List Nat) : ∀ i, (toP s d i).length = i
  | 0 => rfl
  | i + 1 => by rw [toP, List.length_append, toP_length s d i]; rfl
theorem tcK_le {s : List (BitVec 8)} {d : List Nat} (hd : dig5 d) : ∀ i, i ≤ 16 → tcK s d i ≤ 1
  | 0, _ => by simp [tcK]
  | i + 1, h => by
    have ih := tcK_le (s := s) hd i (by omega)
    have hs := (gt s i).isLt
    rw [tcK, xK_val hd (by omega) _ 8 (Nat.le_refl _)]
    have := Nat.mod_lt (v5 d / 2 ^ (8 * i)) (show 2 ^ 8 > 0 by decide)
    generalize v5 d / 2 ^ (8 * i) % 2 ^ 8 = y at *
    omega
theorem toP_val {s : List (BitVec 8)} {d : List Nat} (hs : s.length = 16) (hd : dig5 d) : ∀ i, i ≤ 16 → leN (toP s d i) + 256 ^ i * tcK s d i = leN (s.take i) + v5 d % 256 ^ i
  | 0, _ => by simp [toP, tcK, leN, Nat.mod_one]
  | i + 1, h => by
    have ih := toP_val hs hd i (by omega)
    rw [toP, leN_append, toP_length, leN_take (by omega), tcK, xK_val hd (by omega) _ 8 (Nat.le_refl _)]
    simp only [leN, Nat.mul_zero, Nat.add_zero, BitVec.toNat_ofNat]
    have e0 : v5 d % 256 ^ (i + 1) = v5 d % 256 ^ i + 256 ^ i * (v5 d / 256 ^ i % 256) := by rw [Nat.pow_succ, Nat.mod_mul]
    have e1 : (256 : Nat) ^ i = 2 ^ (8 * i) := by rw [show (256 : Nat) = 2 ^ 8 from rfl, ← Nat.pow_mul]
    rw [e0, ← e1, show (2 : Nat) ^ 8 = 256 from rfl, Nat.pow_succ]
    generalize v5 d / 256 ^ i % 256 = y at *
    generalize v5 d % 256 ^ i = z at *
    generalize tcK s d i = t at *
    generalize (gt s i).toNat = b at *
    generalize 256 ^ i = p at *
    have hm : (b + t + y) % 256 + 256 * ((b + t + y) / 256) = b + t + y := by omega
    have h2 := congrArg (fun q => p * q) hm
    simp only [Nat.mul_add] at h2
    rw [Nat.mul_assoc]
    omega
theorem toP_tag {s : List (BitVec 8)} {d : List Nat} (hs : s.length = 16) (hd : dig5 d) : leN (toP s d 16) = (v5 d + leN s) % 340282366920938463463374607431768211456 := by
  have h := toP_val hs hd 16 (Nat.le_refl _)
  have h2 := tcK_le (s := s) hd 16 (Nat.le_refl _)
  have h3 := leN_lt (toP s d 16)
  rw [toP_length] at h3
  rw [List.take_of_length_le (by omega)] at h
  rw [show (256 : Nat) ^ 16 = 340282366920938463463374607431768211456 by decide] at h h3
  omega
end Go.Proofs.Ytikopoimoaddhaa
