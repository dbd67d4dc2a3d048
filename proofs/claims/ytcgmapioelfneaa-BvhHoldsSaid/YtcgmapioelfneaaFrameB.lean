/- Arguments, opened: slices of numbers, slices of slices, a struct of three arrays and numbers. No condition. -/
import Derived.Test.YtcgmapioelfneaaFrame
import Derived.Test.YtcgmapioelfneaaSymG
import Derived.Deep.Slices
import Derived.Deep.Strs
namespace Go.Proofs.Ytcgmapioelfneaa
open Go.ChangeShapes Go.WideShapes Go.ChangeAt Go.RowKit Go.Deep
section
variable {H : Type} {enc : TypeId × Value → H} {P : Program} {w : World} {base : Nat} {spare : Nat → Bool} {held : Bool}
end
end Go.Proofs.Ytcgmapioelfneaa
