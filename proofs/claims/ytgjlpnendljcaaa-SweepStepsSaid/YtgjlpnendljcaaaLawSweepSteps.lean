/- The law SweepSteps: As many steps whatever there is: of one room, any triangles, any rays, any masks take the same steps, as long as as many questions are asked. No condition. -/
import Derived.Test.YtgjlpnendljcaaaFrame
import Derived.Test.YtgjlpnendljcaaaFrameC
import Derived.Test.YtgjlpnendljcaaaFrameK
import Derived.Test.YtgjlpnendljcaaaSwpG
import Derived.Test.YtgjlpnendljcaaaFrameL
import Derived.Test.YtgjlpnendljcaaaSwp18
namespace Go.Proofs.Ytgjlpnendljcaaa
open Go.ChangeShapes Go.WideShapes Go.ChangeAt Go.RowKit
set_option maxRecDepth 100000
namespace lawSweepSteps
set_option maxRecDepth 100000
theorem lifted (os : Os) (started : os.Started) (H : Type) (enc : TypeId × Value → H) :
    ReturnsInHanded {} Try.checked os 4 .any (Rows.sweepStepsSpec.pre6 enc Try.prog Try.f4 Rows.sweepStepsRow.domain false) (Rows.sweepStepsSpec.post enc Try.prog Try.f4 false true false false) := by
  refine law_step started Try.func4 (by kernel_rfl) rfl rfl (by rw [Try.params4]; exact of_decide_eq_true (by kernel_rfl)) ?_
    (ChangeSpec.witness6 (enc := enc) (C := Try.checked) false ⟨#[], #[.slice none 0 0, .slice none 0 0, .agg #[.slice none 0 0, .slice none 0 0]], []⟩ 8 (by kernel_rfl) (by kernel_rfl) (by kernel_rfl) (by kernel_rfl)) ?_
  · intro W args ds p hA
    rw [Try.params4] at hA
    obtain ⟨v0, vs0, d0, ds0, p0, q0, rfl, rfl, rfl, h0, r0⟩ := trodAll_cons hA
    obtain ⟨v1, vs1, d1, ds1, p1, q1, rfl, rfl, rfl, h1, r1⟩ := trodAll_cons r0
    obtain ⟨v2, vs2, d2, ds2, p2, q2, rfl, rfl, rfl, h2, r2⟩ := trodAll_cons r1
    obtain ⟨rfl, rfl, rfl⟩ := trodAll_nil r2
    rfl
  · intro W base args ds p hval hA hfz
    rw [Try.params4] at hA hval
    obtain ⟨v0, vs0, d0, ds0, p0, q0, rfl, rfl, rfl, h0, r0⟩ := trodAll_cons hA
    obtain ⟨v1, vs1, d1, ds1, p1, q1, rfl, rfl, rfl, h1, r1⟩ := trodAll_cons r0
    obtain ⟨v2, vs2, d2, ds2, p2, q2, rfl, rfl, rfl, h2, r2⟩ := trodAll_cons r1
    obtain ⟨rfl, rfl, rfl⟩ := trodAll_nil r2
    obtain ⟨rs0, f0, g0⟩ := open_flats (ks := triKs) Try.underlying22 (by kernel_rfl) (by kernel_rfl) (by decide) (hval 0 _ v0 rfl rfl) h0
    obtain ⟨es0, hes0, ok0⟩ := tris_of_flats f0 g0
    obtain ⟨rs1, f1, g1⟩ := open_flats (ks := triKs) Try.underlying22 (by kernel_rfl) (by kernel_rfl) (by decide) (hval 1 _ v1 rfl rfl) h1
    obtain ⟨es1, hes1, ok1⟩ := tris_of_flats f1 g1
    obtain ⟨u0, u1, rq0, rq1, rfl, fq0, gq0, fq1, gq1⟩ := open_two (ks := askKs) Try.underlying48 Try.underlying23 (by kernel_rfl) (by kernel_rfl) (by kernel_rfl) (by kernel_rfl) (by decide) (hval 2 _ v2 rfl rfl) h2
    obtain ⟨qs0, hqs0⟩ := asks_of_flats fq0 gq0
    obtain ⟨qs1, hqs1⟩ := asks_of_flats fq1 gq1
    exact sweepSteps_walk _ _ _ _ es0 es1 ok0 ok1 qs0 qs1 W hes0 hes1 hqs0 hqs1
theorem closed : joinedFacts Try.prog 4 Try.f4 Rows.sweepStepsSpec Rows.sweepStepsRow = true := by
  unfold joinedFacts
  rw [mayEnter_ok, lifts_ok, make_ok]
  kernel_rfl
theorem proved : Rows.SweepStepsSaid :=
  OpenClaim.holds_of_wide 4 Try.f4 rfl rfl rfl rfl rfl rfl rfl ⟨rfl, rfl, rfl, rfl, rfl⟩ rfl rfl rfl rfl rfl (by kernel_rfl) Try.func4 closed
    (of_decide_eq_true (by kernel_rfl)) (by unfold Func.isWrapper; first | (rw [if_pos (by decide +kernel)]; kernel_rfl) | (rw [if_neg (by decide +kernel)]; exact ⟨rfl, rfl⟩))
    (fun os started H enc _ => lifted os started H enc)
end lawSweepSteps
end Go.Proofs.Ytgjlpnendljcaaa
