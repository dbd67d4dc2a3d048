/- Arguments, opened: slices of numbers, slices of slices, a struct of three arrays and numbers. No condition. Arguments of ints, opened. -/
import Derived.Test.YtmpnkknocfaciaaFrame
import Derived.Test.YtmpnkknocfaciaaSymG
import Derived.Deep.Slices
import Derived.Deep.Strs
namespace Go.Proofs.Ytmpnkknocfaciaa
open Go.ChangeShapes Go.WideShapes Go.ChangeAt Go.RowKit Go.Deep
section
variable {H : Type} {enc : TypeId × Value → H} {P : Program} {w : World} {base : Nat} {spare : Nat → Bool} {held : Bool}
end
end Go.Proofs.Ytmpnkknocfaciaa
namespace Go.Proofs.Ytmpnkknocfaciaa
set_option maxRecDepth 100000
section
variable {H : Type} {enc : TypeId × Value → H} {P : Program} {w : World} {base : Nat} {spare : Nat → Bool} {held : Bool}
end
end Go.Proofs.Ytmpnkknocfaciaa
