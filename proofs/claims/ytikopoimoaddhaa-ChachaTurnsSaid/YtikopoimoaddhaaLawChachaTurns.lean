/- The law ChachaTurns: for every two quadruples the law returns true. No condition. -/
import Derived.Test.YtikopoimoaddhaaLawChachaQuarters
namespace Go.Proofs.Ytikopoimoaddhaa
open Go.ChangeShapes Go.WideShapes Go.ChangeAt Go.RowKit
set_option maxRecDepth 100000

theorem chachaTurns_walk (a b c d a' b' c' d' : BitVec 32) (w : World) :
    Calls Try.prog 6 #[.agg #[.int .u32 (bvi a), .int .u32 (bvi b), .int .u32 (bvi c), .int .u32 (bvi d)], .agg #[.int .u32 (bvi a'), .int .u32 (bvi b'), .int .u32 (bvi c'), .int .u32 (bvi d')]] w fun e w' => e = .returned (.bool true) ∧ Below w.heap.size w w' := by
  obtain ⟨r, h1, h2⟩ : ∃ r : Bool, (qrL a b c d == qrL a' b' c' d') = r ∧ ([a, b, c, d] == [a', b', c', d']) = r := by
    refine ⟨_, rfl, ?_⟩
    rw [Bool.eq_iff_iff, beq_iff_eq, beq_iff_eq]
    constructor
    · intro h
      simp only [List.cons.injEq, and_true] at h
      obtain ⟨rfl, rfl, rfl, rfl⟩ := h
      rfl
    · intro h
      obtain ⟨rfl, rfl, rfl, rfl⟩ := qrL_inj h
      rfl
  have he : ∀ W, (Op.equalIn 10000 32 (.agg (vals .u32 (qrL a b c d))) (.agg (vals .u32 (qrL a' b' c' d')))).run Try.prog W = .ok r W := fun W => by rw [eq_w4 _ _ rfl rfl, h1]
  have hf : ∀ W, (Op.equalIn 10000 32 (.agg #[.int .u32 (bvi a), .int .u32 (bvi b), .int .u32 (bvi c), .int .u32 (bvi d)]) (.agg #[.int .u32 (bvi a'), .int .u32 (bvi b'), .int .u32 (bvi c'), .int .u32 (bvi d')])).run Try.prog W = .ok r W := fun W => by
    have := eq_w4 [a, b, c, d] [a', b', c', d'] rfl rfl W
    rw [h2] at this; exact this
  clear h1 h2
  go_enter Try.func6, Try.ntmps6
  go_wp2
  refine wp_forget (fun W => Below w.heap.size w W ∧ Blk W w.heap.size (vals .u32 [a, b, c, d]) 32 ∧ Blk W (w.heap.size + 1) (vals .u32 [a', b', c', d']) 32) ⟨((Below.refl _ _).alloc (Nat.le_refl _) _).alloc (by simp) _, (Blk.new _ _ _ rfl).alloc _, Blk.new _ _ _ (by simp)⟩ ?_
  rintro w0 ⟨hb, K1, K2⟩
  refine wp_region_later (by kernel_rfl) (by kernel_rfl) ?_
  have c0 := fun x : Later w0 => (K1.later x.below).cellv 0 (by simp)
  have c1 := fun x : Later w0 => (K1.later x.below).cellv 1 (by simp)
  have c2 := fun x : Later w0 => (K1.later x.below).cellv 2 (by simp)
  have c3 := fun x : Later w0 => (K1.later x.below).cellv 3 (by simp)
  have d0 := fun x : Later w0 => (K2.later x.below).cellv 0 (by simp)
  have d1 := fun x : Later w0 => (K2.later x.below).cellv 1 (by simp)
  have d2 := fun x : Later w0 => (K2.later x.below).cellv 2 (by simp)
  have d3 := fun x : Later w0 => (K2.later x.below).cellv 3 (by simp)
  simp only [gt, List.getD_cons_zero, List.getD_cons_succ] at c0 c1 c2 c3 d0 d1 d2 d3
  repeat (go_big_quiet_step (first
    | (go_at_call 34; exact later_of (quarter_any _ _ _ _ _))
    | (go_at_call 36; exact later_of (works06_any _))))
  refine wpQuiet_nil ?_
  intro x
  go_wp2
  go_ret
  exact ⟨rfl, hb.trans (x.below.mono hb.size)⟩

namespace lawChachaTurns
set_option maxRecDepth 100000
theorem lifted (os : Os) (started : os.Started) (H : Type) (enc : TypeId × Value → H) :
    ReturnsInHanded {} Try.checked os 6 .any (Rows.chachaTurnsSpec.pre6 enc Try.prog Try.f6 Rows.chachaTurnsRow.domain false) (Rows.chachaTurnsSpec.post enc Try.prog Try.f6 false true false false) := by
  refine law_step started Try.func6 (by kernel_rfl) rfl rfl (by rw [Try.params6]; exact of_decide_eq_true (by kernel_rfl)) ?_
    (ChangeSpec.witness6 (enc := enc) (C := Try.checked) false ⟨#[], #[.agg #[.int .u32 0, .int .u32 0, .int .u32 0, .int .u32 0], .agg #[.int .u32 0, .int .u32 0, .int .u32 0, .int .u32 0]], []⟩ 8 (by kernel_rfl) (by kernel_rfl) (by kernel_rfl) (by kernel_rfl)) ?_
  · intro W args ds p hA
    rw [Try.params6] at hA
    obtain ⟨v0, vs0, d0, ds0, p0, q0, rfl, rfl, rfl, h0, r0⟩ := trodAll_cons hA
    obtain ⟨v1, vs1, d1, ds1, p1, q1, rfl, rfl, rfl, h1, r1⟩ := trodAll_cons r0
    obtain ⟨rfl, rfl, rfl⟩ := trodAll_nil r1
    rfl
  · intro W base args ds p hval hA hfz
    rw [Try.params6] at hA hval
    obtain ⟨v0, vs0, d0, ds0, p0, q0, rfl, rfl, rfl, h0, r0⟩ := trodAll_cons hA
    obtain ⟨v1, vs1, d1, ds1, p1, q1, rfl, rfl, rfl, h1, r1⟩ := trodAll_cons r0
    obtain ⟨rfl, rfl, rfl⟩ := trodAll_nil r1
    obtain ⟨l, hl, rfl⟩ := open_arr bv32_of Try.underlying32 Try.underlying22 (by kernel_rfl) (by kernel_rfl) (hval 0 _ v0 rfl rfl) h0
    obtain ⟨m, hm, rfl⟩ := open_arr bv32_of Try.underlying32 Try.underlying22 (by kernel_rfl) (by kernel_rfl) (hval 1 _ v1 rfl rfl) h1
    obtain ⟨a, b, c, d, rfl⟩ := list4 hl
    obtain ⟨a', b', c', d', rfl⟩ := list4 hm
    exact chachaTurns_walk a b c d a' b' c' d' W
theorem closed : joinedFacts Try.prog 6 Try.f6 Rows.chachaTurnsSpec Rows.chachaTurnsRow = true := by
  unfold joinedFacts
  rw [mayEnter_ok, lifts_ok, make_ok]
  kernel_rfl
theorem proved : Rows.ChachaTurnsSaid :=
  OpenClaim.holds_of_wide 6 Try.f6 rfl rfl rfl rfl rfl rfl rfl ⟨rfl, rfl, rfl, rfl, rfl⟩ rfl rfl rfl rfl rfl (by kernel_rfl) Try.func6 closed
    (of_decide_eq_true (by kernel_rfl)) (by unfold Func.isWrapper; first | (rw [if_pos (by decide +kernel)]; kernel_rfl) | (rw [if_neg (by decide +kernel)]; exact ⟨rfl, rfl⟩))
    (fun os started H enc _ => lifted os started H enc)
end lawChachaTurns
end Go.Proofs.Ytikopoimoaddhaa
