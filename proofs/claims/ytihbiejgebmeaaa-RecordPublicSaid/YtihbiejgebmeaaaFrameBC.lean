/- Arguments, opened: slices of numbers, slices of slices, a struct of three arrays and numbers. No condition. Arguments of ints, opened. -/
import Derived.Test.YtihbiejgebmeaaaFrame
import Derived.Test.YtihbiejgebmeaaaSymG
import Derived.Deep.Slices
import Derived.Deep.Strs
namespace Go.Proofs.Ytihbiejgebmeaaa
open Go.ChangeShapes Go.WideShapes Go.ChangeAt Go.RowKit Go.Deep
section
variable {H : Type} {enc : TypeId × Value → H} {P : Program} {w : World} {base : Nat} {spare : Nat → Bool} {held : Bool}
end
end Go.Proofs.Ytihbiejgebmeaaa
namespace Go.Proofs.Ytihbiejgebmeaaa
set_option maxRecDepth 100000
section
variable {H : Type} {enc : TypeId × Value → H} {P : Program} {w : World} {base : Nat} {spare : Nat → Bool} {held : Bool}
def In64 (z : Int) : Prop := -9223372036854775808 ≤ z ∧ z < 9223372036854775808
theorem wf64 {z : Int} (h : (Lit.int .i64 z).wf = true) : In64 z := by
  have := bd_of_wf h
  unfold In64
  omega
end
end Go.Proofs.Ytihbiejgebmeaaa
