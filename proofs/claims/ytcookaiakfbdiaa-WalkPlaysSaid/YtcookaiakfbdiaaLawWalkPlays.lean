/- The law WalkPlays: Whatever is asked of a walk over any triangles, it tells what one triangle after the other tells; one that New did not make tells nothing. No condition. -/
import Derived.Test.YtcookaiakfbdiaaFrame
import Derived.Test.YtcookaiakfbdiaaFrameC
import Derived.Test.YtcookaiakfbdiaaFrameK
import Derived.Test.YtcookaiakfbdiaaMgSwp11
import Derived.Test.YtcookaiakfbdiaaWkP
namespace Go.Proofs.Ytcookaiakfbdiaa
open Go.ChangeShapes Go.WideShapes Go.ChangeAt Go.RowKit
set_option maxRecDepth 100000
namespace lawWalkPlays
set_option maxRecDepth 100000
theorem lifted (os : Os) (started : os.Started) (H : Type) (enc : TypeId × Value → H) :
    ReturnsInHanded {} Try.checked os 5 .any (Rows.walkPlaysSpec.pre6 enc Try.prog Try.f5 Rows.walkPlaysRow.domain false) (Rows.walkPlaysSpec.post enc Try.prog Try.f5 false true false false) := by
  refine law_step started Try.func5 (by kernel_rfl) rfl rfl (by rw [Try.params5]; exact of_decide_eq_true (by kernel_rfl)) ?_
    (ChangeSpec.witness6 (enc := enc) (C := Try.checked) false ⟨#[], #[.slice none 0 0, .slice none 0 0], []⟩ 8 (by kernel_rfl) (by kernel_rfl) (by kernel_rfl) (by kernel_rfl)) ?_
  · intro W args ds p hA
    rw [Try.params5] at hA
    obtain ⟨v0, vs0, d0, ds0, p0, q0, rfl, rfl, rfl, h0, r0⟩ := trodAll_cons hA
    obtain ⟨v1, vs1, d1, ds1, p1, q1, rfl, rfl, rfl, h1, r1⟩ := trodAll_cons r0
    obtain ⟨rfl, rfl, rfl⟩ := trodAll_nil r1
    rfl
  · intro W base args ds p hval hA hfz
    rw [Try.params5] at hA hval
    obtain ⟨v0, vs0, d0, ds0, p0, q0, rfl, rfl, rfl, h0, r0⟩ := trodAll_cons hA
    obtain ⟨v1, vs1, d1, ds1, p1, q1, rfl, rfl, rfl, h1, r1⟩ := trodAll_cons r0
    obtain ⟨rfl, rfl, rfl⟩ := trodAll_nil r1
    obtain ⟨rsl, fl, gl⟩ := open_flats (ks := triKs) Try.underlying22 (by kernel_rfl) (by kernel_rfl) (by decide) (hval 0 _ v0 rfl rfl) h0
    obtain ⟨es, hes, okes⟩ := tris_of_flats fl gl
    obtain ⟨rsq, fq, gq⟩ := open_flats (ks := askKs) Try.underlying57 (by kernel_rfl) (by kernel_rfl) (by decide) (hval 1 _ v1 rfl rfl) h1
    obtain ⟨qs, hqs⟩ := asks_of_flats fq gq
    exact walkPlays_walk hitR_any _ es okes _ qs W hes hqs
theorem closed : joinedFacts Try.prog 5 Try.f5 Rows.walkPlaysSpec Rows.walkPlaysRow = true := by
  unfold joinedFacts
  rw [mayEnter_ok, lifts_ok, make_ok]
  kernel_rfl
theorem proved : Rows.WalkPlaysSaid :=
  OpenClaim.holds_of_wide 5 Try.f5 rfl rfl rfl rfl rfl rfl rfl ⟨rfl, rfl, rfl, rfl, rfl⟩ rfl rfl rfl rfl rfl (by kernel_rfl) Try.func5 closed
    (of_decide_eq_true (by kernel_rfl)) (by unfold Func.isWrapper; first | (rw [if_pos (by decide +kernel)]; kernel_rfl) | (rw [if_neg (by decide +kernel)]; exact ⟨rfl, rfl⟩))
    (fun os started H enc _ => lifted os started H enc)
end lawWalkPlays
end Go.Proofs.Ytcookaiakfbdiaa
