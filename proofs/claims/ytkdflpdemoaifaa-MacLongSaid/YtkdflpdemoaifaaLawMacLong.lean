/- The law MacLong: A key of more than 64 bytes is as good as its sum; a byte 0 behind a shorter one changes nothing. No condition. -/
import Derived.Test.YtkdflpdemoaifaaFrame
import Derived.Test.YtkdflpdemoaifaaFrameB
import Derived.Test.YtkdflpdemoaifaaFrameC
import Derived.Test.YtkdflpdemoaifaaMac4
namespace Go.Proofs.Ytkdflpdemoaifaa
open Go.ChangeShapes Go.WideShapes Go.ChangeAt Go.RowKit
set_option maxRecDepth 100000
namespace lawMacLong
set_option maxRecDepth 100000
theorem lifted (os : Os) (started : os.Started) (H : Type) (enc : TypeId × Value → H) :
    ReturnsInHanded {} Try.checked os 10 .any (Rows.macLongSpec.pre6 enc Try.prog Try.f10 Rows.macLongRow.domain false) (Rows.macLongSpec.post enc Try.prog Try.f10 false true false false) := by
  refine law_step started Try.func10 (by kernel_rfl) rfl rfl (by rw [Try.params10]; exact of_decide_eq_true (by kernel_rfl)) ?_
    (ChangeSpec.witness6 (enc := enc) (C := Try.checked) false ⟨#[], #[.slice none 0 0, .slice none 0 0], []⟩ 8 (by kernel_rfl) (by kernel_rfl) (by kernel_rfl) (by kernel_rfl)) ?_
  · intro W args ds p hA
    rw [Try.params10] at hA
    obtain ⟨v0, vs0, d0, ds0, p0, q0, rfl, rfl, rfl, h0, r0⟩ := trodAll_cons hA
    obtain ⟨v1, vs1, d1, ds1, p1, q1, rfl, rfl, rfl, h1, r1⟩ := trodAll_cons r0
    obtain ⟨rfl, rfl, rfl⟩ := trodAll_nil r1
    rfl
  · intro W base args ds p hval hA hfz
    rw [Try.params10] at hA hval
    obtain ⟨v0, vs0, d0, ds0, p0, q0, rfl, rfl, rfl, h0, r0⟩ := trodAll_cons hA
    obtain ⟨v1, vs1, d1, ds1, p1, q1, rfl, rfl, rfl, h1, r1⟩ := trodAll_cons r0
    obtain ⟨rfl, rfl, rfl⟩ := trodAll_nil r1
    obtain ⟨key, hkey, lkey⟩ := open_fs bv8_of Try.underlying28 Try.underlying5 (by kernel_rfl) (hval 0 _ v0 rfl rfl) h0
    obtain ⟨msg, hmsg, lmsg⟩ := open_fs bv8_of Try.underlying28 Try.underlying5 (by kernel_rfl) (hval 1 _ v1 rfl rfl) h1
    exact (macLong_walk _ _ key msg W hkey hmsg)
theorem closed : joinedFacts Try.prog 10 Try.f10 Rows.macLongSpec Rows.macLongRow = true := by
  unfold joinedFacts
  rw [mayEnter_ok, lifts_ok, make_ok]
  kernel_rfl
theorem proved : Rows.MacLongSaid :=
  OpenClaim.holds_of_wide 10 Try.f10 rfl rfl rfl rfl rfl rfl rfl ⟨rfl, rfl, rfl, rfl, rfl⟩ rfl rfl rfl rfl rfl (by kernel_rfl) Try.func10 closed
    (of_decide_eq_true (by kernel_rfl)) (by unfold Func.isWrapper; first | (rw [if_pos (by decide +kernel)]; kernel_rfl) | (rw [if_neg (by decide +kernel)]; exact ⟨rfl, rfl⟩))
    (fun os started H enc _ => lifted os started H enc)
end lawMacLong
end Go.Proofs.Ytkdflpdemoaifaa
