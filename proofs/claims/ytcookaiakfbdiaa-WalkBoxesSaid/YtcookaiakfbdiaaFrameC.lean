/- Arguments of ints, opened. -/
import Derived.Test.YtcookaiakfbdiaaFrameB
namespace Go.Proofs.Ytcookaiakfbdiaa
set_option maxRecDepth 100000
section
variable {H : Type} {enc : TypeId × Value → H} {P : Program} {w : World} {base : Nat} {spare : Nat → Bool} {held : Bool}
end
end Go.Proofs.Ytcookaiakfbdiaa
