/- The law ChachaQuarters: for every four numbers the law returns true. No condition. -/
import Derived.Test.YtikopoimoaddhaaFrame
import Derived.Test.YtikopoimoaddhaaChachaB
import Derived.Test.YtikopoimoaddhaaRow
namespace Go.Proofs.Ytikopoimoaddhaa
open Go.ChangeShapes Go.WideShapes Go.ChangeAt Go.RowKit
set_option maxRecDepth 100000

theorem chachaQuarters_walk (a b c d : BitVec 32) (w : World) :
    Calls Try.prog 5 #[.agg #[.int .u32 (bvi a), .int .u32 (bvi b), .int .u32 (bvi c), .int .u32 (bvi d)]] w fun e w' => e = .returned (.bool true) ∧ Below w.heap.size w w' := by
  have he : ∀ W, (Op.equalIn 10000 32 (.agg (vals .u32 (qrL a b c d))) (.agg (vals .u32 (qrL a b c d)))).run Try.prog W = .ok true W := fun W => by rw [eq_w4 _ _ rfl rfl]; simp
  go_enter Try.func5, Try.ntmps5
  go_wp2
  refine wp_forget (fun W => Below w.heap.size w W ∧ Blk W w.heap.size (vals .u32 [a, b, c, d]) 32) ⟨(Below.refl _ _).alloc (Nat.le_refl _) _, Blk.new _ _ _ rfl⟩ ?_
  rintro w0 ⟨hb, K1⟩
  refine wp_region_later (by kernel_rfl) (by kernel_rfl) ?_
  have c0 := fun x : Later w0 => (K1.later x.below).cellv 0 (by simp)
  have c1 := fun x : Later w0 => (K1.later x.below).cellv 1 (by simp)
  have c2 := fun x : Later w0 => (K1.later x.below).cellv 2 (by simp)
  have c3 := fun x : Later w0 => (K1.later x.below).cellv 3 (by simp)
  simp only [gt, List.getD_cons_zero, List.getD_cons_succ] at c0 c1 c2 c3
  repeat (go_big_quiet_step (first
    | (go_at_call 34; exact later_of (quarter_any a b c d _))
    | (go_at_call 35; exact later_of (refQuarter_any a b c d _))
    | (go_at_call 36; exact later_of (works06_any _))))
  refine wpQuiet_nil ?_
  intro x
  go_wp2
  go_ret
  exact ⟨rfl, hb.trans (x.below.mono hb.size)⟩
theorem list4 {n : Nat} {l : List (BitVec n)} (h : l.length = 4) : ∃ a b c d, l = [a, b, c, d] := by
  match l, h with
  | [a, b, c, d], _ => exact ⟨a, b, c, d, rfl⟩

namespace lawChachaQuarters
set_option maxRecDepth 100000
theorem lifted (os : Os) (started : os.Started) (H : Type) (enc : TypeId × Value → H) :
    ReturnsInHanded {} Try.checked os 5 .any (Rows.chachaQuartersSpec.pre6 enc Try.prog Try.f5 Rows.chachaQuartersRow.domain false) (Rows.chachaQuartersSpec.post enc Try.prog Try.f5 false true false false) := by
  refine law_step started Try.func5 (by kernel_rfl) rfl rfl (by rw [Try.params5]; exact of_decide_eq_true (by kernel_rfl)) ?_
    (ChangeSpec.witness6 (enc := enc) (C := Try.checked) false ⟨#[], #[.agg #[.int .u32 0, .int .u32 0, .int .u32 0, .int .u32 0]], []⟩ 8 (by kernel_rfl) (by kernel_rfl) (by kernel_rfl) (by kernel_rfl)) ?_
  · intro W args ds p hA
    rw [Try.params5] at hA
    obtain ⟨v0, vs0, d0, ds0, p0, q0, rfl, rfl, rfl, h0, r0⟩ := trodAll_cons hA
    obtain ⟨rfl, rfl, rfl⟩ := trodAll_nil r0
    rfl
  · intro W base args ds p hval hA hfz
    rw [Try.params5] at hA hval
    obtain ⟨v0, vs0, d0, ds0, p0, q0, rfl, rfl, rfl, h0, r0⟩ := trodAll_cons hA
    obtain ⟨rfl, rfl, rfl⟩ := trodAll_nil r0
    obtain ⟨l, hl, rfl⟩ := open_arr bv32_of Try.underlying32 Try.underlying22 (by kernel_rfl) (by kernel_rfl) (hval 0 _ v0 rfl rfl) h0
    obtain ⟨a, b, c, d, rfl⟩ := list4 hl
    exact chachaQuarters_walk a b c d W
theorem closed : joinedFacts Try.prog 5 Try.f5 Rows.chachaQuartersSpec Rows.chachaQuartersRow = true := by
  unfold joinedFacts
  rw [mayEnter_ok, lifts_ok, make_ok]
  kernel_rfl
theorem proved : Rows.ChachaQuartersSaid :=
  OpenClaim.holds_of_wide 5 Try.f5 rfl rfl rfl rfl rfl rfl rfl ⟨rfl, rfl, rfl, rfl, rfl⟩ rfl rfl rfl rfl rfl (by kernel_rfl) Try.func5 closed
    (of_decide_eq_true (by kernel_rfl)) (by unfold Func.isWrapper; first | (rw [if_pos (by decide +kernel)]; kernel_rfl) | (rw [if_neg (by decide +kernel)]; exact ⟨rfl, rfl⟩))
    (fun os started H enc _ => lifted os started H enc)
end lawChachaQuarters
end Go.Proofs.Ytikopoimoaddhaa
