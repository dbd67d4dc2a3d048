/- Arguments of ints, opened. -/
import Derived.Test.YtcgmapioelfneaaFrameB
namespace Go.Proofs.Ytcgmapioelfneaa
set_option maxRecDepth 100000
section
variable {H : Type} {enc : TypeId × Value → H} {P : Program} {w : World} {base : Nat} {spare : Nat → Bool} {held : Bool}
end
end Go.Proofs.Ytcgmapioelfneaa
