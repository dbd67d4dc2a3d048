/- The law BvhHolds: Each triangle lies in just one leaf, and all its corners in the boxes of all nodes above it. No condition. -/
import Derived.Test.YtcgmapioelfneaaFrame
import Derived.Test.YtcgmapioelfneaaFrameC
import Derived.Test.YtcgmapioelfneaaFrameK
import Derived.Test.YtcgmapioelfneaaMgSwp9
import Derived.Test.YtcgmapioelfneaaMgWkM
namespace Go.Proofs.Ytcgmapioelfneaa
open Go.ChangeShapes Go.WideShapes Go.ChangeAt Go.RowKit
set_option maxRecDepth 100000
namespace lawBvhHolds
set_option maxRecDepth 100000
theorem lifted (os : Os) (started : os.Started) (H : Type) (enc : TypeId × Value → H) :
    ReturnsInHanded {} Try.checked os 4 .any (Rows.bvhHoldsSpec.pre6 enc Try.prog Try.f4 Rows.bvhHoldsRow.domain false) (Rows.bvhHoldsSpec.post enc Try.prog Try.f4 false true false false) := by
  refine law_step started Try.func4 (by kernel_rfl) rfl rfl (by rw [Try.params4]; exact of_decide_eq_true (by kernel_rfl)) ?_
    (ChangeSpec.witness6 (enc := enc) (C := Try.checked) false ⟨#[], #[.slice none 0 0], []⟩ 8 (by kernel_rfl) (by kernel_rfl) (by kernel_rfl) (by kernel_rfl)) ?_
  · intro W args ds p hA
    rw [Try.params4] at hA
    obtain ⟨v0, vs0, d0, ds0, p0, q0, rfl, rfl, rfl, h0, r0⟩ := trodAll_cons hA
    obtain ⟨rfl, rfl, rfl⟩ := trodAll_nil r0
    rfl
  · intro W base args ds p hval hA hfz
    rw [Try.params4] at hA hval
    obtain ⟨v0, vs0, d0, ds0, p0, q0, rfl, rfl, rfl, h0, r0⟩ := trodAll_cons hA
    obtain ⟨rfl, rfl, rfl⟩ := trodAll_nil r0
    obtain ⟨rsl, fl, gl⟩ := open_flats (ks := triKs) Try.underlying22 (by kernel_rfl) (by kernel_rfl) (by decide) (hval 0 _ v0 rfl rfl) h0
    obtain ⟨es, hes, okes⟩ := tris_of_flats fl gl
    exact bvhHolds_walk _ es okes W hes
theorem closed : joinedFacts Try.prog 4 Try.f4 Rows.bvhHoldsSpec Rows.bvhHoldsRow = true := by
  unfold joinedFacts
  rw [mayEnter_ok, lifts_ok, make_ok]
  kernel_rfl
theorem proved : Rows.BvhHoldsSaid :=
  OpenClaim.holds_of_wide 4 Try.f4 rfl rfl rfl rfl rfl rfl rfl ⟨rfl, rfl, rfl, rfl, rfl⟩ rfl rfl rfl rfl rfl (by kernel_rfl) Try.func4 closed
    (of_decide_eq_true (by kernel_rfl)) (by unfold Func.isWrapper; first | (rw [if_pos (by decide +kernel)]; kernel_rfl) | (rw [if_neg (by decide +kernel)]; exact ⟨rfl, rfl⟩))
    (fun os started H enc _ => lifted os started H enc)
end lawBvhHolds
end Go.Proofs.Ytcgmapioelfneaa
