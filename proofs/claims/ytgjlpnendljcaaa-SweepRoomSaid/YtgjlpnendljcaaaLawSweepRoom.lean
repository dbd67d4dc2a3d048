/- The law SweepRoom: More room changes nothing but the steps. No condition. -/
import Derived.Test.YtgjlpnendljcaaaFrame
import Derived.Test.YtgjlpnendljcaaaFrameC
import Derived.Test.YtgjlpnendljcaaaFrameK
import Derived.Test.YtgjlpnendljcaaaSwpF
namespace Go.Proofs.Ytgjlpnendljcaaa
open Go.ChangeShapes Go.WideShapes Go.ChangeAt Go.RowKit
set_option maxRecDepth 100000
namespace lawSweepRoom
set_option maxRecDepth 100000
theorem lifted (os : Os) (started : os.Started) (H : Type) (enc : TypeId × Value → H) :
    ReturnsInHanded {} Try.checked os 5 .any (Rows.sweepRoomSpec.pre6 enc Try.prog Try.f5 Rows.sweepRoomRow.domain false) (Rows.sweepRoomSpec.post enc Try.prog Try.f5 false true false false) := by
  refine law_step started Try.func5 (by kernel_rfl) rfl rfl (by rw [Try.params5]; exact of_decide_eq_true (by kernel_rfl)) ?_
    (ChangeSpec.witness6 (enc := enc) (C := Try.checked) false ⟨#[], #[.slice none 0 0, .agg #[.int .i64 0, .int .i64 0, .int .i64 0, .int .i64 0, .int .i64 0, .int .i64 0, .int .u8 0, .int .i64 0, .bool false], .int .u8 0], []⟩ 8 (by kernel_rfl) (by kernel_rfl) (by kernel_rfl) (by kernel_rfl)) ?_
  · intro W args ds p hA
    rw [Try.params5] at hA
    obtain ⟨v0, vs0, d0, ds0, p0, q0, rfl, rfl, rfl, h0, r0⟩ := trodAll_cons hA
    obtain ⟨v1, vs1, d1, ds1, p1, q1, rfl, rfl, rfl, h1, r1⟩ := trodAll_cons r0
    obtain ⟨v2, vs2, d2, ds2, p2, q2, rfl, rfl, rfl, h2, r2⟩ := trodAll_cons r1
    obtain ⟨rfl, rfl, rfl⟩ := trodAll_nil r2
    rfl
  · intro W base args ds p hval hA hfz
    rw [Try.params5] at hA hval
    obtain ⟨v0, vs0, d0, ds0, p0, q0, rfl, rfl, rfl, h0, r0⟩ := trodAll_cons hA
    obtain ⟨v1, vs1, d1, ds1, p1, q1, rfl, rfl, rfl, h1, r1⟩ := trodAll_cons r0
    obtain ⟨v2, vs2, d2, ds2, p2, q2, rfl, rfl, rfl, h2, r2⟩ := trodAll_cons r1
    obtain ⟨rfl, rfl, rfl⟩ := trodAll_nil r2
    obtain ⟨rsl, fl, gl⟩ := open_flats (ks := triKs) Try.underlying22 (by kernel_rfl) (by kernel_rfl) (by decide) (hval 0 _ v0 rfl rfl) h0
    obtain ⟨es, hes, okes⟩ := tris_of_flats fl gl
    obtain ⟨csa, rfl, fa⟩ := open_flat (ks := askKs) (by kernel_rfl) (by kernel_rfl) (by kernel_rfl) (hval 1 _ v1 rfl rfl) h1
    obtain ⟨o, d, mask, skip, near, hask⟩ := ask_of_flat fa
    rw [hask]
    obtain ⟨more, rfl⟩ := open_uint bv8_of Try.underlying5 (hval 2 _ v2 rfl rfl) h2
    exact sweepRoom_walk _ es okes o d mask skip near more W hes
theorem closed : joinedFacts Try.prog 5 Try.f5 Rows.sweepRoomSpec Rows.sweepRoomRow = true := by
  unfold joinedFacts
  rw [mayEnter_ok, lifts_ok, make_ok]
  kernel_rfl
theorem proved : Rows.SweepRoomSaid :=
  OpenClaim.holds_of_wide 5 Try.f5 rfl rfl rfl rfl rfl rfl rfl ⟨rfl, rfl, rfl, rfl, rfl⟩ rfl rfl rfl rfl rfl (by kernel_rfl) Try.func5 closed
    (of_decide_eq_true (by kernel_rfl)) (by unfold Func.isWrapper; first | (rw [if_pos (by decide +kernel)]; kernel_rfl) | (rw [if_neg (by decide +kernel)]; exact ⟨rfl, rfl⟩))
    (fun os started H enc _ => lifted os started H enc)
end lawSweepRoom
end Go.Proofs.Ytgjlpnendljcaaa
