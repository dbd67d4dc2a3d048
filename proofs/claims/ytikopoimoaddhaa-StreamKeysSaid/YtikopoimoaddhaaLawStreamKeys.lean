/- The law StreamKeys: for every seed, drawn number and bound the law returns true. No condition. -/
import Derived.Test.YtikopoimoaddhaaFrame
import Derived.Test.YtikopoimoaddhaaStreamB
import Derived.Test.YtikopoimoaddhaaEq
namespace Go.Proofs.Ytikopoimoaddhaa
open Go.ChangeShapes Go.WideShapes Go.ChangeAt Go.RowKit
set_option maxRecDepth 100000

theorem refBelow_any (x n : Int) (h0 : 0 ≤ x) (h1 : x ≤ 4294967295) (w : World) :
    Calls Try.prog 32 #[.int .u32 x, .int .i64 n] w fun e w' => e = .returned (.int .i64 (blw x n)) ∧ w = w' := by
  by_cases h : n < 1
  · have hb : Hid (blw x n = 0) := by
      have : blw x n = 0 := by
        unfold blw
        by_cases h2 : n < 0
        · rw [if_pos h2]; simp
        · rw [if_neg h2, if_neg (by omega)]; have : n = 0 := by omega
          subst this; simp
      exact this
    go_enter Try.func32, Try.ntmps32
    go_wp2
    go_ret
    exact ⟨ret_eq (congrArg _ hb.out.symm), rfl⟩
  · by_cases hm : 2147483648 < n
    · have hb : Hid (blw x n = x * 2147483648 / 4294967296) := by have : blw x n = x * 2147483648 / 4294967296 := by rw [blw, if_neg (by omega), if_pos hm]
                                                                  exact this
      go_enter Try.func32, Try.ntmps32
      go_wp2
      go_ret
      exact ⟨ret_eq (congrArg _ hb.out.symm), rfl⟩
    · obtain ⟨b0, b1⟩ := mul_bd h0 h1 (by omega : ¬ n < 0) hm
      have e1 : IntKind.u64.wrap (x * n) = x * n := by rw [wrap_u64']; omega
      have e2 : wrap64 (x * n / 4294967296) = x * n / 4294967296 := by unfold wrap64; omega
      have hb : Hid (blw x n = x * n / 4294967296) := by have : blw x n = x * n / 4294967296 := by rw [blw, if_neg (by omega), if_neg hm]
                                                         exact this
      go_enter Try.func32, Try.ntmps32
      go_wp2
      go_ret
      exact ⟨ret_eq (congrArg _ hb.out.symm), rfl⟩

theorem refUnit_any (x : Int) (h0 : 0 ≤ x) (h1 : x ≤ 4294967295) (w : World) :
    Calls Try.prog 33 #[.int .u32 x] w fun e w' => e = .returned (.int .i64 x) ∧ w = w' := by
  go_enter Try.func33, Try.ntmps33
  go_wp2
  go_ret
  exact ⟨rfl, rfl⟩

theorem keyL_length (s : BitVec 64) : (keyL s).length = 32 := by rw [keyL, fillL_length, fillL_length]; simp

theorem streamKeys_walk (s : BitVec 64) (x : BitVec 32) (n : Int) (w : World) :
    Calls Try.prog 4 #[.int .u64 (bvi s), .int .u32 (bvi x), .int .i64 n] w fun e w' => e = .returned (.bool true) ∧ Below w.heap.size w w' := by
  have hx0 := bvi_nonneg x
  have hx1 := bvi_lt32 x
  have he : ∀ W, (Op.equalIn 10000 29 (.agg (vals .u8 (keyL s))) (.agg (vals .u8 (keyL s)))).run Try.prog W = .ok true W := fun W => by rw [eq_b32 _ _ (keyL_length s) (keyL_length s)]; simp
  generalize bvi x = a at *
  go_enter Try.func4, Try.ntmps4
  go_wp2_with (first | (go_at_call 30; refine (key_any _ _).mono ?_; rintro e w1 ⟨rfl, hb1⟩) | (go_at_call 31; refine (refKey_any _ _).mono ?_; rintro e w2 ⟨rfl, hb2⟩) | (go_at_call 27; refine (below_any _ _ (by assumption) (by assumption) _).mono ?_; rintro e w' ⟨rfl, rfl⟩) | (go_at_call 32; refine (refBelow_any _ _ (by assumption) (by assumption) _).mono ?_; rintro e w' ⟨rfl, rfl⟩) | (go_at_call 29; refine (unit_any _ (by assumption) (by assumption) _).mono ?_; rintro e w' ⟨rfl, rfl⟩) | (go_at_call 33; refine (refUnit_any _ (by assumption) (by assumption) _).mono ?_; rintro e w' ⟨rfl, rfl⟩) | (go_at_call 28; refine (works10_any _).mono ?_; rintro e w' ⟨rfl, rfl⟩))
  go_ret
  exact ⟨rfl, hb1.trans (hb2.mono hb1.size)⟩

namespace lawStreamKeys
set_option maxRecDepth 100000
theorem lifted (os : Os) (started : os.Started) (H : Type) (enc : TypeId × Value → H) :
    ReturnsInHanded {} Try.checked os 4 .any (Rows.streamKeysSpec.pre6 enc Try.prog Try.f4 Rows.streamKeysRow.domain false) (Rows.streamKeysSpec.post enc Try.prog Try.f4 false true false false) := by
  refine law_step started Try.func4 (by kernel_rfl) rfl rfl (by rw [Try.params4]; exact of_decide_eq_true (by kernel_rfl)) ?_
    (ChangeSpec.witness6 (enc := enc) (C := Try.checked) false ⟨#[], #[.int .u64 0, .int .u32 0, .int .i64 0], []⟩ 8 (by kernel_rfl) (by kernel_rfl) (by kernel_rfl) (by kernel_rfl)) ?_
  · intro W args ds p hA
    rw [Try.params4] at hA
    obtain ⟨v0, vs0, d0, ds0, p0, q0, rfl, rfl, rfl, h0, r0⟩ := trodAll_cons hA
    obtain ⟨v1, vs1, d1, ds1, p1, q1, rfl, rfl, rfl, h1, r1⟩ := trodAll_cons r0
    obtain ⟨v2, vs2, d2, ds2, p2, q2, rfl, rfl, rfl, h2, r2⟩ := trodAll_cons r1
    obtain ⟨rfl, rfl, rfl⟩ := trodAll_nil r2
    rfl
  · intro W base args ds p hval hA hfz
    rw [Try.params4] at hA hval
    obtain ⟨v0, vs0, d0, ds0, p0, q0, rfl, rfl, rfl, h0, r0⟩ := trodAll_cons hA
    obtain ⟨v1, vs1, d1, ds1, p1, q1, rfl, rfl, rfl, h1, r1⟩ := trodAll_cons r0
    obtain ⟨v2, vs2, d2, ds2, p2, q2, rfl, rfl, rfl, h2, r2⟩ := trodAll_cons r1
    obtain ⟨rfl, rfl, rfl⟩ := trodAll_nil r2
    obtain ⟨s, rfl⟩ := open_uint bv64_of Try.underlying28 (hval 0 _ v0 rfl rfl) h0
    obtain ⟨x, rfl⟩ := open_uint bv32_of Try.underlying22 (hval 1 _ v1 rfl rfl) h1
    obtain ⟨n, rfl, _, _, wn⟩ := open_int Try.underlying3 (hval 2 _ v2 rfl rfl) h2
    exact streamKeys_walk s x n W
theorem closed : joinedFacts Try.prog 4 Try.f4 Rows.streamKeysSpec Rows.streamKeysRow = true := by
  unfold joinedFacts
  rw [mayEnter_ok, lifts_ok, make_ok]
  kernel_rfl
theorem proved : Rows.StreamKeysSaid :=
  OpenClaim.holds_of_wide 4 Try.f4 rfl rfl rfl rfl rfl rfl rfl ⟨rfl, rfl, rfl, rfl, rfl⟩ rfl rfl rfl rfl rfl (by kernel_rfl) Try.func4 closed
    (of_decide_eq_true (by kernel_rfl)) (by unfold Func.isWrapper; first | (rw [if_pos (by decide +kernel)]; kernel_rfl) | (rw [if_neg (by decide +kernel)]; exact ⟨rfl, rfl⟩))
    (fun os started H enc _ => lifted os started H enc)
end lawStreamKeys
end Go.Proofs.Ytikopoimoaddhaa
