/- The law PolyCuts: the blocks of a message are told apart from those of any other one. No condition. -/
import Derived.Test.YtikopoimoaddhaaFrame
import Derived.Test.YtikopoimoaddhaaFrameB
import Derived.Test.YtikopoimoaddhaaPoly9
namespace Go.Proofs.Ytikopoimoaddhaa
open Go.ChangeShapes Go.WideShapes Go.ChangeAt Go.RowKit
set_option maxRecDepth 100000
namespace lawPolyCuts
set_option maxRecDepth 100000
theorem lifted (os : Os) (started : os.Started) (H : Type) (enc : TypeId × Value → H) :
    ReturnsInHanded {} Try.checked os 19 .any (Rows.polyCutsSpec.pre6 enc Try.prog Try.f19 Rows.polyCutsRow.domain false) (Rows.polyCutsSpec.post enc Try.prog Try.f19 false true false false) := by
  refine law_step started Try.func19 (by kernel_rfl) rfl rfl (by rw [Try.params19]; exact of_decide_eq_true (by kernel_rfl)) ?_
    (ChangeSpec.witness6 (enc := enc) (C := Try.checked) false ⟨#[], #[.slice none 0 0], []⟩ 8 (by kernel_rfl) (by kernel_rfl) (by kernel_rfl) (by kernel_rfl)) ?_
  · intro W args ds p hA
    rw [Try.params19] at hA
    obtain ⟨v0, vs0, d0, ds0, p0, q0, rfl, rfl, rfl, h0, r0⟩ := trodAll_cons hA
    obtain ⟨rfl, rfl, rfl⟩ := trodAll_nil r0
    rfl
  · intro W base args ds p hval hA hfz
    rw [Try.params19] at hA hval
    obtain ⟨v0, vs0, d0, ds0, p0, q0, rfl, rfl, rfl, h0, r0⟩ := trodAll_cons hA
    obtain ⟨rfl, rfl, rfl⟩ := trodAll_nil r0
    obtain ⟨msg, hmsg, lmsg⟩ := open_fs bv8_of Try.underlying44 Try.underlying5 (by kernel_rfl) (hval 0 _ v0 rfl rfl) h0
    exact polyCuts_walk _ msg W hmsg
theorem closed : joinedFacts Try.prog 19 Try.f19 Rows.polyCutsSpec Rows.polyCutsRow = true := by
  unfold joinedFacts
  rw [mayEnter_ok, lifts_ok, make_ok]
  kernel_rfl
theorem proved : Rows.PolyCutsSaid :=
  OpenClaim.holds_of_wide 19 Try.f19 rfl rfl rfl rfl rfl rfl rfl ⟨rfl, rfl, rfl, rfl, rfl⟩ rfl rfl rfl rfl rfl (by kernel_rfl) Try.func19 closed
    (of_decide_eq_true (by kernel_rfl)) (by unfold Func.isWrapper; first | (rw [if_pos (by decide +kernel)]; kernel_rfl) | (rw [if_neg (by decide +kernel)]; exact ⟨rfl, rfl⟩))
    (fun os started H enc _ => lifted os started H enc)
end lawPolyCuts
end Go.Proofs.Ytikopoimoaddhaa
