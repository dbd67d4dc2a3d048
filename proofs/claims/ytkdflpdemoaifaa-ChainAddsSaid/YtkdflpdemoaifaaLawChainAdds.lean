/- The law ChainAdds: Whatever is added to a log, its entries and its head are the document's; a copy goes on alone; one that New did not make has nothing. No condition. -/
import Derived.Test.YtkdflpdemoaifaaFrame
import Derived.Test.YtkdflpdemoaifaaFrameB
import Derived.Test.YtkdflpdemoaifaaFrameC
import Derived.Test.YtkdflpdemoaifaaFrameF
import Derived.Test.YtkdflpdemoaifaaChn21
namespace Go.Proofs.Ytkdflpdemoaifaa
open Go.ChangeShapes Go.WideShapes Go.ChangeAt Go.RowKit
set_option maxRecDepth 100000
namespace lawChainAdds
set_option maxRecDepth 100000
theorem lifted (os : Os) (started : os.Started) (H : Type) (enc : TypeId × Value → H) :
    ReturnsInHanded {} Try.checked os 17 .any (Rows.chainAddsSpec.pre6 enc Try.prog Try.f17 Rows.chainAddsRow.domain false) (Rows.chainAddsSpec.post enc Try.prog Try.f17 false true false false) := by
  refine law_step started Try.func17 (by kernel_rfl) rfl rfl (by rw [Try.params17]; exact of_decide_eq_true (by kernel_rfl)) ?_
    (ChangeSpec.witness6 (enc := enc) (C := Try.checked) false ⟨#[], #[.int .i64 0, .slice none 0 0, .int .i64 0], []⟩ 8 (by kernel_rfl) (by kernel_rfl) (by kernel_rfl) (by kernel_rfl)) ?_
  · intro W args ds p hA
    rw [Try.params17] at hA
    obtain ⟨v0, vs0, d0, ds0, p0, q0, rfl, rfl, rfl, h0, r0⟩ := trodAll_cons hA
    obtain ⟨v1, vs1, d1, ds1, p1, q1, rfl, rfl, rfl, h1, r1⟩ := trodAll_cons r0
    obtain ⟨v2, vs2, d2, ds2, p2, q2, rfl, rfl, rfl, h2, r2⟩ := trodAll_cons r1
    obtain ⟨rfl, rfl, rfl⟩ := trodAll_nil r2
    rfl
  · intro W base args ds p hval hA hfz
    rw [Try.params17] at hA hval
    obtain ⟨v0, vs0, d0, ds0, p0, q0, rfl, rfl, rfl, h0, r0⟩ := trodAll_cons hA
    obtain ⟨v1, vs1, d1, ds1, p1, q1, rfl, rfl, rfl, h1, r1⟩ := trodAll_cons r0
    obtain ⟨v2, vs2, d2, ds2, p2, q2, rfl, rfl, rfl, h2, r2⟩ := trodAll_cons r1
    obtain ⟨rfl, rfl, rfl⟩ := trodAll_nil r2
    obtain ⟨layer, rfl, _, _, wlayer⟩ := open_int Try.underlying3 (hval 0 _ v0 rfl rfl) h0
    obtain ⟨l, hl, okl⟩ := open_ents Try.underlying70 (by kernel_rfl) (fun _ _ _ h => ent_of_trod Try.underlying74 Try.underlying3 Try.underlying22 Try.underlying3 Try.underlying62 Try.underlying29 Try.underlying5 (by kernel_rfl) (by kernel_rfl) (by kernel_rfl) (by kernel_rfl) (by kernel_rfl) (by kernel_rfl) rfl rfl rfl rfl rfl (by kernel_rfl) h) (hval 1 _ v1 rfl rfl) h1
    obtain ⟨copied, rfl, _, _, wcopied⟩ := open_int Try.underlying3 (hval 2 _ v2 rfl rfl) h2
    exact chainAdds_walk layer (wf64 wlayer) _ l okl copied (wf64 wcopied) W hl
theorem closed : joinedFacts Try.prog 17 Try.f17 Rows.chainAddsSpec Rows.chainAddsRow = true := by
  unfold joinedFacts
  rw [mayEnter_ok, lifts_ok, make_ok]
  kernel_rfl
theorem proved : Rows.ChainAddsSaid :=
  OpenClaim.holds_of_wide 17 Try.f17 rfl rfl rfl rfl rfl rfl rfl ⟨rfl, rfl, rfl, rfl, rfl⟩ rfl rfl rfl rfl rfl (by kernel_rfl) Try.func17 closed
    (of_decide_eq_true (by kernel_rfl)) (by unfold Func.isWrapper; first | (rw [if_pos (by decide +kernel)]; kernel_rfl) | (rw [if_neg (by decide +kernel)]; exact ⟨rfl, rfl⟩))
    (fun os started H enc _ => lifted os started H enc)
end lawChainAdds
end Go.Proofs.Ytkdflpdemoaifaa
