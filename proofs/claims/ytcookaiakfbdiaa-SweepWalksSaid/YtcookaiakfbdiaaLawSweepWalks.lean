/- The law SweepWalks: A sweep and a walk over the same triangles tell the same. No condition. -/
import Derived.Test.YtcookaiakfbdiaaFrame
import Derived.Test.YtcookaiakfbdiaaFrameC
import Derived.Test.YtcookaiakfbdiaaFrameK
import Derived.Test.YtcookaiakfbdiaaMgSwp11
import Derived.Test.YtcookaiakfbdiaaMgWkJ
namespace Go.Proofs.Ytcookaiakfbdiaa
open Go.ChangeShapes Go.WideShapes Go.ChangeAt Go.RowKit
set_option maxRecDepth 100000
namespace lawSweepWalks
set_option maxRecDepth 100000
theorem lifted (os : Os) (started : os.Started) (H : Type) (enc : TypeId × Value → H) :
    ReturnsInHanded {} Try.checked os 7 .any (Rows.sweepWalksSpec.pre6 enc Try.prog Try.f7 Rows.sweepWalksRow.domain false) (Rows.sweepWalksSpec.post enc Try.prog Try.f7 false true false false) := by
  refine law_step started Try.func7 (by kernel_rfl) rfl rfl (by rw [Try.params7]; exact of_decide_eq_true (by kernel_rfl)) ?_
    (ChangeSpec.witness6 (enc := enc) (C := Try.checked) false ⟨#[], #[.slice none 0 0, .slice none 0 0], []⟩ 8 (by kernel_rfl) (by kernel_rfl) (by kernel_rfl) (by kernel_rfl)) ?_
  · intro W args ds p hA
    rw [Try.params7] at hA
    obtain ⟨v0, vs0, d0, ds0, p0, q0, rfl, rfl, rfl, h0, r0⟩ := trodAll_cons hA
    obtain ⟨v1, vs1, d1, ds1, p1, q1, rfl, rfl, rfl, h1, r1⟩ := trodAll_cons r0
    obtain ⟨rfl, rfl, rfl⟩ := trodAll_nil r1
    rfl
  · intro W base args ds p hval hA hfz
    rw [Try.params7] at hA hval
    obtain ⟨v0, vs0, d0, ds0, p0, q0, rfl, rfl, rfl, h0, r0⟩ := trodAll_cons hA
    obtain ⟨v1, vs1, d1, ds1, p1, q1, rfl, rfl, rfl, h1, r1⟩ := trodAll_cons r0
    obtain ⟨rfl, rfl, rfl⟩ := trodAll_nil r1
    obtain ⟨rsl, fl, gl⟩ := open_flats (ks := triKs) Try.underlying22 (by kernel_rfl) (by kernel_rfl) (by decide) (hval 0 _ v0 rfl rfl) h0
    obtain ⟨es, hes, okes⟩ := tris_of_flats fl gl
    obtain ⟨rsq, fq, gq⟩ := open_flats (ks := askKs) Try.underlying57 (by kernel_rfl) (by kernel_rfl) (by decide) (hval 1 _ v1 rfl rfl) h1
    obtain ⟨qs, hqs⟩ := asks_of_flats fq gq
    exact sweepWalks_walk _ es okes _ qs W hes hqs
theorem closed : joinedFacts Try.prog 7 Try.f7 Rows.sweepWalksSpec Rows.sweepWalksRow = true := by
  unfold joinedFacts
  rw [mayEnter_ok, lifts_ok, make_ok]
  kernel_rfl
theorem proved : Rows.SweepWalksSaid :=
  OpenClaim.holds_of_wide 7 Try.f7 rfl rfl rfl rfl rfl rfl rfl ⟨rfl, rfl, rfl, rfl, rfl⟩ rfl rfl rfl rfl rfl (by kernel_rfl) Try.func7 closed
    (of_decide_eq_true (by kernel_rfl)) (by unfold Func.isWrapper; first | (rw [if_pos (by decide +kernel)]; kernel_rfl) | (rw [if_neg (by decide +kernel)]; exact ⟨rfl, rfl⟩))
    (fun os started H enc _ => lifted os started H enc)
end lawSweepWalks
end Go.Proofs.Ytcookaiakfbdiaa
