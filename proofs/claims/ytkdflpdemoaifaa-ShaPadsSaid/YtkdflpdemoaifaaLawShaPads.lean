/- The law ShaPads: Behind a message of any length stands what the document says. No condition. -/
import Derived.Test.YtkdflpdemoaifaaFrame
import Derived.Test.YtkdflpdemoaifaaFrameC
import Derived.Test.YtkdflpdemoaifaaSha9
namespace Go.Proofs.Ytkdflpdemoaifaa
open Go.ChangeShapes Go.WideShapes Go.ChangeAt Go.RowKit
set_option maxRecDepth 100000
namespace lawShaPads
set_option maxRecDepth 100000
theorem lifted (os : Os) (started : os.Started) (H : Type) (enc : TypeId × Value → H) :
    ReturnsInHanded {} Try.checked os 8 .any (Rows.shaPadsSpec.pre6 enc Try.prog Try.f8 Rows.shaPadsRow.domain false) (Rows.shaPadsSpec.post enc Try.prog Try.f8 false true false false) := by
  refine law_step started Try.func8 (by kernel_rfl) rfl rfl (by rw [Try.params8]; exact of_decide_eq_true (by kernel_rfl)) ?_
    (ChangeSpec.witness6 (enc := enc) (C := Try.checked) false ⟨#[], #[.int .i64 0], []⟩ 8 (by kernel_rfl) (by kernel_rfl) (by kernel_rfl) (by kernel_rfl)) ?_
  · intro W args ds p hA
    rw [Try.params8] at hA
    obtain ⟨v0, vs0, d0, ds0, p0, q0, rfl, rfl, rfl, h0, r0⟩ := trodAll_cons hA
    obtain ⟨rfl, rfl, rfl⟩ := trodAll_nil r0
    rfl
  · intro W base args ds p hval hA hfz
    rw [Try.params8] at hA hval
    obtain ⟨v0, vs0, d0, ds0, p0, q0, rfl, rfl, rfl, h0, r0⟩ := trodAll_cons hA
    obtain ⟨rfl, rfl, rfl⟩ := trodAll_nil r0
    obtain ⟨n, rfl, _, _, wn⟩ := open_int Try.underlying3 (hval 0 _ v0 rfl rfl) h0
    exact (shaPads_walk n (bd_of_wf wn).2 W)
theorem closed : joinedFacts Try.prog 8 Try.f8 Rows.shaPadsSpec Rows.shaPadsRow = true := by
  unfold joinedFacts
  rw [mayEnter_ok, lifts_ok, make_ok]
  kernel_rfl
theorem proved : Rows.ShaPadsSaid :=
  OpenClaim.holds_of_wide 8 Try.f8 rfl rfl rfl rfl rfl rfl rfl ⟨rfl, rfl, rfl, rfl, rfl⟩ rfl rfl rfl rfl rfl (by kernel_rfl) Try.func8 closed
    (of_decide_eq_true (by kernel_rfl)) (by unfold Func.isWrapper; first | (rw [if_pos (by decide +kernel)]; kernel_rfl) | (rw [if_neg (by decide +kernel)]; exact ⟨rfl, rfl⟩))
    (fun os started H enc _ => lifted os started H enc)
end lawShaPads
end Go.Proofs.Ytkdflpdemoaifaa
