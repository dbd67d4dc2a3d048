/- The law MacKeys: Any secret has the key of the document by any salt, and any key the bytes of the document, as many as one likes. No condition. -/
import Derived.Test.YtkdflpdemoaifaaFrame
import Derived.Test.YtkdflpdemoaifaaFrameB
import Derived.Test.YtkdflpdemoaifaaFrameC
import Derived.Test.YtkdflpdemoaifaaMac10
namespace Go.Proofs.Ytkdflpdemoaifaa
open Go.ChangeShapes Go.WideShapes Go.ChangeAt Go.RowKit
set_option maxRecDepth 100000
namespace lawMacKeys
set_option maxRecDepth 100000
theorem lifted (os : Os) (started : os.Started) (H : Type) (enc : TypeId × Value → H) :
    ReturnsInHanded {} Try.checked os 14 .any (Rows.macKeysSpec.pre6 enc Try.prog Try.f14 Rows.macKeysRow.domain false) (Rows.macKeysSpec.post enc Try.prog Try.f14 false true false false) := by
  refine law_step started Try.func14 (by kernel_rfl) rfl rfl (by rw [Try.params14]; exact of_decide_eq_true (by kernel_rfl)) ?_
    (ChangeSpec.witness6 (enc := enc) (C := Try.checked) false ⟨#[], #[.slice none 0 0, .slice none 0 0, .int .i64 0], []⟩ 8 (by kernel_rfl) (by kernel_rfl) (by kernel_rfl) (by kernel_rfl)) ?_
  · intro W args ds p hA
    rw [Try.params14] at hA
    obtain ⟨v0, vs0, d0, ds0, p0, q0, rfl, rfl, rfl, h0, r0⟩ := trodAll_cons hA
    obtain ⟨v1, vs1, d1, ds1, p1, q1, rfl, rfl, rfl, h1, r1⟩ := trodAll_cons r0
    obtain ⟨v2, vs2, d2, ds2, p2, q2, rfl, rfl, rfl, h2, r2⟩ := trodAll_cons r1
    obtain ⟨rfl, rfl, rfl⟩ := trodAll_nil r2
    rfl
  · intro W base args ds p hval hA hfz
    rw [Try.params14] at hA hval
    obtain ⟨v0, vs0, d0, ds0, p0, q0, rfl, rfl, rfl, h0, r0⟩ := trodAll_cons hA
    obtain ⟨v1, vs1, d1, ds1, p1, q1, rfl, rfl, rfl, h1, r1⟩ := trodAll_cons r0
    obtain ⟨v2, vs2, d2, ds2, p2, q2, rfl, rfl, rfl, h2, r2⟩ := trodAll_cons r1
    obtain ⟨rfl, rfl, rfl⟩ := trodAll_nil r2
    obtain ⟨salt, hsalt, lsalt⟩ := open_fs bv8_of Try.underlying28 Try.underlying5 (by kernel_rfl) (hval 0 _ v0 rfl rfl) h0
    obtain ⟨secret, hsecret, lsecret⟩ := open_fs bv8_of Try.underlying28 Try.underlying5 (by kernel_rfl) (hval 1 _ v1 rfl rfl) h1
    obtain ⟨n, rfl, _, _, wn⟩ := open_int Try.underlying3 (hval 2 _ v2 rfl rfl) h2
    exact (macKeys_walk _ _ salt secret n W hsalt hsecret (bd_of_wf wn))
theorem closed : joinedFacts Try.prog 14 Try.f14 Rows.macKeysSpec Rows.macKeysRow = true := by
  unfold joinedFacts
  rw [mayEnter_ok, lifts_ok, make_ok]
  kernel_rfl
theorem proved : Rows.MacKeysSaid :=
  OpenClaim.holds_of_wide 14 Try.f14 rfl rfl rfl rfl rfl rfl rfl ⟨rfl, rfl, rfl, rfl, rfl⟩ rfl rfl rfl rfl rfl (by kernel_rfl) Try.func14 closed
    (of_decide_eq_true (by kernel_rfl)) (by unfold Func.isWrapper; first | (rw [if_pos (by decide +kernel)]; kernel_rfl) | (rw [if_neg (by decide +kernel)]; exact ⟨rfl, rfl⟩))
    (fun os started H enc _ => lifted os started H enc)
end lawMacKeys
end Go.Proofs.Ytkdflpdemoaifaa
