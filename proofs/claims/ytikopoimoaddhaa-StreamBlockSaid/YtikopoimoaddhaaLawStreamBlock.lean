/- The law StreamBlock: The dimensions of a bounce are the numbers of four blocks, one behind the other. No condition. -/
import Derived.Test.YtikopoimoaddhaaFrame
import Derived.Test.YtikopoimoaddhaaFrameC
import Derived.Test.YtikopoimoaddhaaStr2
namespace Go.Proofs.Ytikopoimoaddhaa
open Go.ChangeShapes Go.WideShapes Go.ChangeAt Go.RowKit
set_option maxRecDepth 100000
namespace lawStreamBlock
set_option maxRecDepth 100000
theorem lifted (os : Os) (started : os.Started) (H : Type) (enc : TypeId × Value → H) :
    ReturnsInHanded {} Try.checked os 12 .any (Rows.streamBlockSpec.pre6 enc Try.prog Try.f12 Rows.streamBlockRow.domain false) (Rows.streamBlockSpec.post enc Try.prog Try.f12 false true false false) := by
  refine law_step started Try.func12 (by kernel_rfl) rfl rfl (by rw [Try.params12]; exact of_decide_eq_true (by kernel_rfl)) ?_
    (ChangeSpec.witness6 (enc := enc) (C := Try.checked) false ⟨#[], #[.int .u64 0, .int .u16 0, .int .u8 0], []⟩ 8 (by kernel_rfl) (by kernel_rfl) (by kernel_rfl) (by kernel_rfl)) ?_
  · intro W args ds p hA
    rw [Try.params12] at hA
    obtain ⟨v0, vs0, d0, ds0, p0, q0, rfl, rfl, rfl, h0, r0⟩ := trodAll_cons hA
    obtain ⟨v1, vs1, d1, ds1, p1, q1, rfl, rfl, rfl, h1, r1⟩ := trodAll_cons r0
    obtain ⟨v2, vs2, d2, ds2, p2, q2, rfl, rfl, rfl, h2, r2⟩ := trodAll_cons r1
    obtain ⟨rfl, rfl, rfl⟩ := trodAll_nil r2
    rfl
  · intro W base args ds p hval hA hfz
    rw [Try.params12] at hA hval
    obtain ⟨v0, vs0, d0, ds0, p0, q0, rfl, rfl, rfl, h0, r0⟩ := trodAll_cons hA
    obtain ⟨v1, vs1, d1, ds1, p1, q1, rfl, rfl, rfl, h1, r1⟩ := trodAll_cons r0
    obtain ⟨v2, vs2, d2, ds2, p2, q2, rfl, rfl, rfl, h2, r2⟩ := trodAll_cons r1
    obtain ⟨rfl, rfl, rfl⟩ := trodAll_nil r2
    obtain ⟨seed, rfl⟩ := open_uint bv64_of Try.underlying28 (hval 0 _ v0 rfl rfl) h0
    obtain ⟨pixel, rfl⟩ := open_uint bv16_of Try.underlying56 (hval 1 _ v1 rfl rfl) h1
    obtain ⟨bounce, rfl⟩ := open_uint bv8_of Try.underlying5 (hval 2 _ v2 rfl rfl) h2
    exact (streamBlock_walk seed pixel bounce W)
theorem closed : joinedFacts Try.prog 12 Try.f12 Rows.streamBlockSpec Rows.streamBlockRow = true := by
  unfold joinedFacts
  rw [mayEnter_ok, lifts_ok, make_ok]
  kernel_rfl
theorem proved : Rows.StreamBlockSaid :=
  OpenClaim.holds_of_wide 12 Try.f12 rfl rfl rfl rfl rfl rfl rfl ⟨rfl, rfl, rfl, rfl, rfl⟩ rfl rfl rfl rfl rfl (by kernel_rfl) Try.func12 closed
    (of_decide_eq_true (by kernel_rfl)) (by unfold Func.isWrapper; first | (rw [if_pos (by decide +kernel)]; kernel_rfl) | (rw [if_neg (by decide +kernel)]; exact ⟨rfl, rfl⟩))
    (fun os started H enc _ => lifted os started H enc)
end lawStreamBlock
end Go.Proofs.Ytikopoimoaddhaa
