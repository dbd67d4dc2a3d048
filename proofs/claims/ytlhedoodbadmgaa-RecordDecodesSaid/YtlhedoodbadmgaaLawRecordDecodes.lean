/- The law RecordDecodes: Any bytes are the document's record, or none. No condition. -/
import Derived.Test.YtlhedoodbadmgaaFrame
import Derived.Test.YtlhedoodbadmgaaFrameB
import Derived.Test.YtlhedoodbadmgaaRecF3
namespace Go.Proofs.Ytlhedoodbadmgaa
open Go.ChangeShapes Go.WideShapes Go.ChangeAt Go.RowKit
set_option maxRecDepth 100000
namespace lawRecordDecodes
set_option maxRecDepth 100000
theorem lifted (os : Os) (started : os.Started) (H : Type) (enc : TypeId × Value → H) :
    ReturnsInHanded {} Try.checked os 6 .any (Rows.recordDecodesSpec.pre6 enc Try.prog Try.f6 Rows.recordDecodesRow.domain false) (Rows.recordDecodesSpec.post enc Try.prog Try.f6 false true false false) := by
  refine law_step started Try.func6 (by kernel_rfl) rfl rfl (by rw [Try.params6]; exact of_decide_eq_true (by kernel_rfl)) ?_
    (ChangeSpec.witness6 (enc := enc) (C := Try.checked) false ⟨#[], #[.slice none 0 0], []⟩ 8 (by kernel_rfl) (by kernel_rfl) (by kernel_rfl) (by kernel_rfl)) ?_
  · intro W args ds p hA
    rw [Try.params6] at hA
    obtain ⟨v0, vs0, d0, ds0, p0, q0, rfl, rfl, rfl, h0, r0⟩ := trodAll_cons hA
    obtain ⟨rfl, rfl, rfl⟩ := trodAll_nil r0
    rfl
  · intro W base args ds p hval hA hfz
    rw [Try.params6] at hA hval
    obtain ⟨v0, vs0, d0, ds0, p0, q0, rfl, rfl, rfl, h0, r0⟩ := trodAll_cons hA
    obtain ⟨rfl, rfl, rfl⟩ := trodAll_nil r0
    obtain ⟨b, hb, lb⟩ := open_fs bv8_of Try.underlying24 Try.underlying5 (by kernel_rfl) (hval 0 _ v0 rfl rfl) h0
    exact recordDecodes_walk b _ W hb
theorem closed : joinedFacts Try.prog 6 Try.f6 Rows.recordDecodesSpec Rows.recordDecodesRow = true := by
  unfold joinedFacts
  rw [mayEnter_ok, lifts_ok, make_ok]
  kernel_rfl
theorem proved : Rows.RecordDecodesSaid :=
  OpenClaim.holds_of_wide 6 Try.f6 rfl rfl rfl rfl rfl rfl rfl ⟨rfl, rfl, rfl, rfl, rfl⟩ rfl rfl rfl rfl rfl (by kernel_rfl) Try.func6 closed
    (of_decide_eq_true (by kernel_rfl)) (by unfold Func.isWrapper; first | (rw [if_pos (by decide +kernel)]; kernel_rfl) | (rw [if_neg (by decide +kernel)]; exact ⟨rfl, rfl⟩))
    (fun os started H enc _ => lifted os started H enc)
end lawRecordDecodes
end Go.Proofs.Ytlhedoodbadmgaa
