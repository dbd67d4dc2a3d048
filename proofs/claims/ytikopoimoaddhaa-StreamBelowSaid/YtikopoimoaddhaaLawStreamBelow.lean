/- The law StreamBelow: for every two drawn numbers and every bound the law returns true. No condition. -/
import Derived.Test.YtikopoimoaddhaaFrame
import Derived.Test.YtikopoimoaddhaaStreamA
namespace Go.Proofs.Ytikopoimoaddhaa
open Go.ChangeShapes Go.WideShapes Go.ChangeAt Go.RowKit
set_option maxRecDepth 100000

theorem blw_small (x n : Int) (hn : n < 1) : blw x n = 0 := by
  unfold blw
  by_cases h : n < 0
  · rw [if_pos h]; simp
  · rw [if_neg h, if_neg (by omega)]; have : n = 0 := by omega
    subst this; simp
theorem blw_bd (x n : Int) (h0 : 0 ≤ x) (h1 : x ≤ 4294967295) (hn : 1 ≤ n) : 0 ≤ blw x n ∧ blw x n < n := by
  unfold blw
  rw [if_neg (by omega)]
  by_cases hm : 2147483648 < n
  · rw [if_pos hm]; omega
  · rw [if_neg hm]
    have := mul_bd h0 h1 (n := n) (by omega) hm
    refine ⟨by omega, ?_⟩
    have h2 : x * n ≤ 4294967295 * n := Int.mul_le_mul_of_nonneg_right h1 (by omega)
    omega
theorem blw_mono (x y n : Int) (h : x ≤ y) (hn : 1 ≤ n) : blw x n ≤ blw y n := by
  unfold blw
  rw [if_neg (by omega)]
  by_cases hm : 2147483648 < n
  · rw [if_pos hm]; omega
  · rw [if_neg hm]
    have h2 : x * n ≤ y * n := Int.mul_le_mul_of_nonneg_right h (by omega)
    omega

theorem streamBelow_walk (x y : BitVec 32) (n : Int) (w : World) :
    Calls Try.prog 3 #[.int .u32 (bvi x), .int .u32 (bvi y), .int .i64 n] w fun e w' => e = .returned (.bool true) ∧ Below w.heap.size w w' := by
  have hx0 := bvi_nonneg x
  have hx1 := bvi_lt32 x
  have hy0 := bvi_nonneg y
  have hy1 := bvi_lt32 y
  have hx2 : bvi x < 4294967296 := by omega
  generalize bvi x = a at *
  generalize bvi y = b at *
  by_cases hn : n < 1
  · have e1 : (blw a n == 0) = true := by rw [blw_small _ _ hn]; rfl
    have e2 : (blw b n == 0) = true := by rw [blw_small _ _ hn]; rfl
    go_enter Try.func3, Try.ntmps3
    go_wp2_with (first | (go_at_call 27; refine (below_any _ _ (by assumption) (by assumption) _).mono ?_; rintro e w' ⟨rfl, rfl⟩) | (go_at_call 28; refine (works10_any _).mono ?_; rintro e w' ⟨rfl, rfl⟩))
    go_ret
    exact ⟨rfl, Below.refl _ _⟩
  · obtain ⟨g1, g2⟩ := blw_bd a n hx0 hx1 (by omega)
    by_cases hxy : b < a
    · go_enter Try.func3, Try.ntmps3
      go_wp2_with (first | (go_at_call 27; refine (below_any _ _ (by assumption) (by assumption) _).mono ?_; rintro e w' ⟨rfl, rfl⟩) | (go_at_call 29; refine (unit_any _ (by assumption) (by assumption) _).mono ?_; rintro e w' ⟨rfl, rfl⟩) | (go_at_call 28; refine (works10_any _).mono ?_; rintro e w' ⟨rfl, rfl⟩))
      go_ret
      exact ⟨rfl, Below.refl _ _⟩
    · have g3 := blw_mono a b n (by omega) (by omega)
      have g4 : decide (b < a) = false := by simpa using hxy
      go_enter Try.func3, Try.ntmps3
      go_wp2_with (first | (go_at_call 27; refine (below_any _ _ (by assumption) (by assumption) _).mono ?_; rintro e w' ⟨rfl, rfl⟩) | (go_at_call 29; refine (unit_any _ (by assumption) (by assumption) _).mono ?_; rintro e w' ⟨rfl, rfl⟩) | (go_at_call 28; refine (works10_any _).mono ?_; rintro e w' ⟨rfl, rfl⟩))
      go_ret
      exact ⟨rfl, Below.refl _ _⟩

namespace lawStreamBelow
set_option maxRecDepth 100000
theorem lifted (os : Os) (started : os.Started) (H : Type) (enc : TypeId × Value → H) :
    ReturnsInHanded {} Try.checked os 3 .any (Rows.streamBelowSpec.pre6 enc Try.prog Try.f3 Rows.streamBelowRow.domain false) (Rows.streamBelowSpec.post enc Try.prog Try.f3 false true false false) := by
  refine law_step started Try.func3 (by kernel_rfl) rfl rfl (by rw [Try.params3]; exact of_decide_eq_true (by kernel_rfl)) ?_
    (ChangeSpec.witness6 (enc := enc) (C := Try.checked) false ⟨#[], #[.int .u32 0, .int .u32 0, .int .i64 0], []⟩ 8 (by kernel_rfl) (by kernel_rfl) (by kernel_rfl) (by kernel_rfl)) ?_
  · intro W args ds p hA
    rw [Try.params3] at hA
    obtain ⟨v0, vs0, d0, ds0, p0, q0, rfl, rfl, rfl, h0, r0⟩ := trodAll_cons hA
    obtain ⟨v1, vs1, d1, ds1, p1, q1, rfl, rfl, rfl, h1, r1⟩ := trodAll_cons r0
    obtain ⟨v2, vs2, d2, ds2, p2, q2, rfl, rfl, rfl, h2, r2⟩ := trodAll_cons r1
    obtain ⟨rfl, rfl, rfl⟩ := trodAll_nil r2
    rfl
  · intro W base args ds p hval hA hfz
    rw [Try.params3] at hA hval
    obtain ⟨v0, vs0, d0, ds0, p0, q0, rfl, rfl, rfl, h0, r0⟩ := trodAll_cons hA
    obtain ⟨v1, vs1, d1, ds1, p1, q1, rfl, rfl, rfl, h1, r1⟩ := trodAll_cons r0
    obtain ⟨v2, vs2, d2, ds2, p2, q2, rfl, rfl, rfl, h2, r2⟩ := trodAll_cons r1
    obtain ⟨rfl, rfl, rfl⟩ := trodAll_nil r2
    obtain ⟨x, rfl⟩ := open_uint bv32_of Try.underlying22 (hval 0 _ v0 rfl rfl) h0
    obtain ⟨y, rfl⟩ := open_uint bv32_of Try.underlying22 (hval 1 _ v1 rfl rfl) h1
    obtain ⟨n, rfl, _, _, wn⟩ := open_int Try.underlying3 (hval 2 _ v2 rfl rfl) h2
    exact streamBelow_walk x y n W
theorem closed : joinedFacts Try.prog 3 Try.f3 Rows.streamBelowSpec Rows.streamBelowRow = true := by
  unfold joinedFacts
  rw [mayEnter_ok, lifts_ok, make_ok]
  kernel_rfl
theorem proved : Rows.StreamBelowSaid :=
  OpenClaim.holds_of_wide 3 Try.f3 rfl rfl rfl rfl rfl rfl rfl ⟨rfl, rfl, rfl, rfl, rfl⟩ rfl rfl rfl rfl rfl (by kernel_rfl) Try.func3 closed
    (of_decide_eq_true (by kernel_rfl)) (by unfold Func.isWrapper; first | (rw [if_pos (by decide +kernel)]; kernel_rfl) | (rw [if_neg (by decide +kernel)]; exact ⟨rfl, rfl⟩))
    (fun os started H enc _ => lifted os started H enc)
end lawStreamBelow
end Go.Proofs.Ytikopoimoaddhaa
