/- Walks of stream's small functions: a number below another one, a unit. No condition. -/
import Derived.Test.YtikopoimoaddhaaBase
import Derived.WalkLawsBesides
namespace Go.Proofs.Ytikopoimoaddhaa
open Go.RowKit
set_option maxRecDepth 100000

/-- What a drawn number is below another one. -/
def blw (x n : Int) : Int := x * (if n < 0 then 0 else if 2147483648 < n then 2147483648 else n) / 4294967296

theorem mul_bd {x n : Int} (h0 : 0 ≤ x) (h1 : x ≤ 4294967295) (hn : ¬ n < 0) (hm : ¬ 2147483648 < n) : 0 ≤ x * n ∧ x * n ≤ 9223372034707292160 :=
  ⟨Int.mul_nonneg h0 (by omega), Int.le_trans (Int.mul_le_mul h1 (by omega : n ≤ 2147483648) (by omega) (by omega)) (by decide)⟩

theorem below_any (x n : Int) (h0 : 0 ≤ x) (h1 : x ≤ 4294967295) (w : World) :
    Calls Try.prog 27 #[.int .u32 x, .int .i64 n] w fun e w' => e = .returned (.int .i64 (blw x n)) ∧ w = w' := by
  by_cases hn : n < 0
  · have hb : blw x n = 0 := by simp [blw, hn]
    go_enter Try.func27, Try.ntmps27
    go_wp2
    go_ret
    exact ⟨ret_eq (congrArg _ hb.symm), rfl⟩
  · by_cases hm : 2147483648 < n
    · have hb : Hid (blw x n = x * 2147483648 / 4294967296) := by have : blw x n = x * 2147483648 / 4294967296 := by rw [blw, if_neg hn, if_pos hm]
                                                                  exact this
      go_enter Try.func27, Try.ntmps27
      go_wp2
      go_ret
      exact ⟨ret_eq (congrArg _ hb.out.symm), rfl⟩
    · obtain ⟨b0, b1⟩ := mul_bd h0 h1 hn hm
      have e1 : IntKind.u64.wrap (x * n) = x * n := by rw [wrap_u64']; omega
      have e2 : wrap64 (x * n / 4294967296) = x * n / 4294967296 := by unfold wrap64; omega
      have hb : Hid (blw x n = x * n / 4294967296) := by have : blw x n = x * n / 4294967296 := by rw [blw, if_neg hn, if_neg hm]
                                                         exact this
      go_enter Try.func27, Try.ntmps27
      go_wp2
      go_ret
      exact ⟨ret_eq (congrArg _ hb.out.symm), rfl⟩

theorem unit_any (x : Int) (h0 : 0 ≤ x) (h1 : x ≤ 4294967295) (w : World) :
    Calls Try.prog 29 #[.int .u32 x] w fun e w' => e = .returned (.int .i64 x) ∧ w = w' := by
  go_enter Try.func29, Try.ntmps29
  go_wp2
  go_ret
  exact ⟨rfl, rfl⟩

theorem works10_any (w : World) : Calls Try.prog 28 #[] w fun e w' => e = .returned (.bool true) ∧ w = w' := by
  have b3 : blw 2147483648 6 = 3 := by decide
  go_enter Try.func28, Try.ntmps28
  go_wp2_with (first | (go_at_call 27; refine (below_any _ _ (by decide) (by decide) _).mono ?_; rintro e w' ⟨rfl, rfl⟩) | (go_at_call 29; refine (unit_any _ (by decide) (by decide) _).mono ?_; rintro e w' ⟨rfl, rfl⟩))
  go_ret
  exact ⟨rfl, rfl⟩
end Go.Proofs.Ytikopoimoaddhaa
