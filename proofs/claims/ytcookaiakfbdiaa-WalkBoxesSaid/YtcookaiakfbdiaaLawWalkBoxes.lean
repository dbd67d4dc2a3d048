/- The law WalkBoxes: A ray that meets a triangle crosses each box that holds it, and so comes to it in any sound tree. No condition. -/
import Derived.Test.YtcookaiakfbdiaaFrame
import Derived.Test.YtcookaiakfbdiaaFrameC
import Derived.Test.YtcookaiakfbdiaaFrameK
import Derived.Test.YtcookaiakfbdiaaMgSwp11
import Derived.Test.YtcookaiakfbdiaaWkX
namespace Go.Proofs.Ytcookaiakfbdiaa
open Go.ChangeShapes Go.WideShapes Go.ChangeAt Go.RowKit
set_option maxRecDepth 100000
namespace lawWalkBoxes
set_option maxRecDepth 100000
theorem lifted (os : Os) (started : os.Started) (H : Type) (enc : TypeId × Value → H) :
    ReturnsInHanded {} Try.checked os 3 .any (Rows.walkBoxesSpec.pre6 enc Try.prog Try.f3 Rows.walkBoxesRow.domain false) (Rows.walkBoxesSpec.post enc Try.prog Try.f3 false true false false) := by
  refine law_step started Try.func3 (by kernel_rfl) rfl rfl (by rw [Try.params3]; exact of_decide_eq_true (by kernel_rfl)) ?_
    (ChangeSpec.witness6 (enc := enc) (C := Try.checked) false ⟨#[], #[.slice none 0 0, .agg #[.int .i64 0, .int .i64 0, .int .i64 0, .int .i64 0, .int .i64 0, .int .i64 0, .int .u8 0, .int .i64 0, .bool false]], []⟩ 8 (by kernel_rfl) (by kernel_rfl) (by kernel_rfl) (by kernel_rfl)) ?_
  · intro W args ds p hA
    rw [Try.params3] at hA
    obtain ⟨v0, vs0, d0, ds0, p0, q0, rfl, rfl, rfl, h0, r0⟩ := trodAll_cons hA
    obtain ⟨v1, vs1, d1, ds1, p1, q1, rfl, rfl, rfl, h1, r1⟩ := trodAll_cons r0
    obtain ⟨rfl, rfl, rfl⟩ := trodAll_nil r1
    rfl
  · intro W base args ds p hval hA hfz
    rw [Try.params3] at hA hval
    obtain ⟨v0, vs0, d0, ds0, p0, q0, rfl, rfl, rfl, h0, r0⟩ := trodAll_cons hA
    obtain ⟨v1, vs1, d1, ds1, p1, q1, rfl, rfl, rfl, h1, r1⟩ := trodAll_cons r0
    obtain ⟨rfl, rfl, rfl⟩ := trodAll_nil r1
    obtain ⟨rsl, fl, gl⟩ := open_flats (ks := triKs) Try.underlying22 (by kernel_rfl) (by kernel_rfl) (by decide) (hval 0 _ v0 rfl rfl) h0
    obtain ⟨es, hes, okes⟩ := tris_of_flats fl gl
    obtain ⟨csa, rfl, fa⟩ := open_flat (ks := askKs) (by kernel_rfl) (by kernel_rfl) (by kernel_rfl) (hval 1 _ v1 rfl rfl) h1
    obtain ⟨o, d, mask, skip, near, hask⟩ := ask_of_flat fa
    rw [hask]
    exact walkBoxes_walk _ es okes o d mask skip near W hes
theorem closed : joinedFacts Try.prog 3 Try.f3 Rows.walkBoxesSpec Rows.walkBoxesRow = true := by
  unfold joinedFacts
  rw [mayEnter_ok, lifts_ok, make_ok]
  kernel_rfl
theorem proved : Rows.WalkBoxesSaid :=
  OpenClaim.holds_of_wide 3 Try.f3 rfl rfl rfl rfl rfl rfl rfl ⟨rfl, rfl, rfl, rfl, rfl⟩ rfl rfl rfl rfl rfl (by kernel_rfl) Try.func3 closed
    (of_decide_eq_true (by kernel_rfl)) (by unfold Func.isWrapper; first | (rw [if_pos (by decide +kernel)]; kernel_rfl) | (rw [if_neg (by decide +kernel)]; exact ⟨rfl, rfl⟩))
    (fun os started H enc _ => lifted os started H enc)
end lawWalkBoxes
end Go.Proofs.Ytcookaiakfbdiaa
