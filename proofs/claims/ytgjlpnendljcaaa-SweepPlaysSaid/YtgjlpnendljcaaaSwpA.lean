/- A law's questions. No condition. -/
import Derived.Test.YtgjlpnendljcaaaSwp12
namespace Go.Proofs.Ytgjlpnendljcaaa
open Go.RowKit
set_option maxRecDepth 100000
/-- A question. -/
structure AskS where
  o : P3
  d : P3
  mask : BitVec 8
  skip : Int
  near : Bool
def AskS.c (a : AskS) : Array Value := askC a.o a.d a.mask a.skip a.near
def asksC (l : List AskS) : List Value := l.flatMap fun a => a.c.toList
theorem asks_row (l : List AskS) (k : Nat) (a : AskS) (h : l[k]? = some a) : ((asksC l).drop (0 + k * 9)).take 9 = a.c.toList := by
  rw [Nat.zero_add]
  exact flat_row (sz := 9) (f := fun a : AskS => a.c.toList) l (fun _ _ => rfl) k a h
theorem asks_len (l : List AskS) : (asksC l).length = l.length * 9 := flat_length (sz := 9) (f := fun a : AskS => a.c.toList) l fun _ _ => rfl
end Go.Proofs.Ytgjlpnendljcaaa
