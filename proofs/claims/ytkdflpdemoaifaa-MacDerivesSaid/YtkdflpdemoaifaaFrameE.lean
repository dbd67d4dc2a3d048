/- A string, opened. No condition. -/
import Derived.Test.YtkdflpdemoaifaaFrameD
import Derived.Test.YtkdflpdemoaifaaSymL
namespace Go.Proofs.Ytkdflpdemoaifaa
open Go.RowKit Go.ChangeAt Go.ChangeShapes Go.WideShapes Go.Deep
set_option maxRecDepth 100000
theorem strL_all (s : ByteArray) : ∃ l, s = strL l := by
  refine ⟨s.data.toList.map (·.toBitVec), ?_⟩
  apply ByteArray.ext
  simp [strL]
  apply Array.ext'
  simp [Function.comp_def]
theorem open_str {P : Program} {w : World} {b : Nat} {t : TypeId} {v : Value} (ht : P.underlying t = some .string) (hok : Value.okWide P w .any b t v) : ∃ l, v = .string (strL l) := by
  obtain ⟨s, rfl⟩ := okWide_string ht hok
  obtain ⟨l, rfl⟩ := strL_all s
  exact ⟨l, rfl⟩
end Go.Proofs.Ytkdflpdemoaifaa
