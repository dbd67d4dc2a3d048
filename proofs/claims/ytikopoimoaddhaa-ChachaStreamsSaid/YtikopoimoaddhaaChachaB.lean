/- The chapter's example of chacha, and that a quarter of a round can be taken back. No condition. -/
import Derived.Test.YtikopoimoaddhaaChachaA
namespace Go.Proofs.Ytikopoimoaddhaa
open Go.RowKit
set_option maxRecDepth 100000

theorem rol_bit (x : BitVec 32) (k i : Nat) (hk : k < 32) (hi : i < 32) : (rol x k).getLsbD i = if i < k then x.getLsbD (i + (32 - k)) else x.getLsbD (i - k) := by
  unfold rol
  rw [BitVec.getLsbD_or, BitVec.getLsbD_shiftLeft, BitVec.getLsbD_ushiftRight]
  by_cases h : i < k
  · simp [h, Nat.add_comm]
  · rw [if_neg h]
    have : x.getLsbD (32 - k + i) = false := BitVec.getLsbD_of_ge _ _ (by omega)
    simp [h, hi, this]
theorem rol_inj {x y : BitVec 32} {k : Nat} (hk : k < 32) (h : rol x k = rol y k) : x = y := by
  apply BitVec.eq_of_getLsbD_eq
  intro j hj
  by_cases h2 : j < 32 - k
  · have h1 := congrArg (fun z => z.getLsbD (j + k)) h
    rw [rol_bit x k _ hk (by omega), rol_bit y k _ hk (by omega), if_neg (by omega), if_neg (by omega), Nat.add_sub_cancel] at h1
    exact h1
  · have h1 := congrArg (fun z => z.getLsbD (j - (32 - k))) h
    rw [rol_bit x k _ hk (by omega), rol_bit y k _ hk (by omega), if_pos (by omega), if_pos (by omega), Nat.sub_add_cancel (by omega)] at h1
    exact h1
theorem add_right_inj' {x y z w : BitVec 32} (h : x + y = z + w) (h2 : y = w) : x = z := by
  subst h2; exact (BitVec.add_left_inj y).1 h
theorem xor_right_inj' {x y z w : BitVec 32} (h : x ^^^ y = z ^^^ w) (h2 : y = w) : x = z := by
  subst h2
  have := congrArg (fun t => t ^^^ y) h
  simpa [BitVec.xor_assoc] using this
/-- A quarter of a round can be taken back. -/
theorem qrL_inj {a b c d a' b' c' d' : BitVec 32} (h : qrL a b c d = qrL a' b' c' d') : a = a' ∧ b = b' ∧ c = c' ∧ d = d' := by
  unfold qrL at h
  simp only [List.cons.injEq, and_true] at h
  obtain ⟨h1, h2, h3, h4⟩ := h
  have hc2 := h3
  have e1 := rol_inj (by decide) h2
  have e2 := xor_right_inj' e1 hc2
  have e3 := add_right_inj' hc2 h4
  have e4 := rol_inj (by decide) h4
  have e5 := xor_right_inj' e4 h1
  have e6 := add_right_inj' h1 e2
  have e7 := rol_inj (by decide) e2
  have e8 := xor_right_inj' e7 e3
  have e9 := add_right_inj' e3 e5
  have e10 := rol_inj (by decide) e5
  have e11 := xor_right_inj' e10 e6
  have e12 := add_right_inj' e6 e8
  exact ⟨e12, e8, e9, e11⟩

theorem works06_any (w : World) : Calls Try.prog 36 #[] w fun e w' => e = .returned (.bool true) ∧ Below w.heap.size w w' := by
  have he : ∀ W, (Op.equalIn 10000 32 (.agg (vals .u32 (qrL 0x11111111#32 0x01020304#32 0x9b8d6f43#32 0x01234567#32))) (.agg #[.int .u32 3928658676, .int .u32 3407673550, .int .u32 1166100270, .int .u32 1484899515])).run Try.prog W = .ok true W := by
    intro W
    have h := eq_w4 (qrL 0x11111111#32 0x01020304#32 0x9b8d6f43#32 0x01234567#32) [0xea2a92f4#32, 0xcb1cf8ce#32, 0x4581472e#32, 0x5881c4bb#32] rfl rfl W
    have h2 : (qrL 0x11111111#32 0x01020304#32 0x9b8d6f43#32 0x01234567#32 == [0xea2a92f4#32, 0xcb1cf8ce#32, 0x4581472e#32, 0x5881c4bb#32]) = true := by decide +kernel
    rw [h2] at h
    exact h
  go_enter Try.func36, Try.ntmps36
  go_wp2_with (go_at_call 34; refine (quarter_any 0x11111111#32 0x01020304#32 0x9b8d6f43#32 0x01234567#32 _).mono ?_; rintro e w' ⟨rfl, hb⟩)
  go_ret
  exact ⟨rfl, hb⟩
end Go.Proofs.Ytikopoimoaddhaa
