/-
  No cell of these rows narrows 'for every input' (looked for: loops, veiled, ifaces, maps, wideKeys, modest, calm, conditions, laid).
  DERIVED. THE GIVEN ROWS OF THIS SEAT. 5 by the template 'for every input the law returns true; each argument reads behind the call as it read before'; 0 by the template 'total and deterministic' (their statements: YtcookaiakfbdiaaTotals.lean).
  GIVEN WITH THE SEED: the statements are not yours to turn. If you find one false, say at which input.
  Laid BY PROGRAM, IN A SANDBOX (cutbox-rows.mjs): the forced cells as the released guide's own fill.sh prints them over the translation e04a38d8561db38b… (all of the seat's roots in one cut). By AI agents, Wed Nov 11 2026. No macro, syntax, notation, axiom, sorry.
-/
import Derived.Test.YtcookaiakfbdiaaChecked
import GoSem.Claim
import GoSem.ClaimJoined
import GoSem.ClaimMapViews
import Derived.JoinedTies
import Derived.KernelRfl
namespace Go.Proofs.Ytcookaiakfbdiaa
/- THE CELL 'sum', in the pinned program and in every row, IS THE sha256 OF THE DUMP (.gsa) THAT YtcookaiakfbdiaaProg.lean LOADS. Nothing in Lean hashes anything: it is a label: what it is worth is what the hold of that sum in a sandbox is worth. -/
noncomputable def Try.pinned : Pinned := { name := "ytcookaiakfbdiaa", sum := "e04a38d8561db38b87389dced667dbcada2b3eb8adbef74e14e1c61e7d038a7d", checked := Try.checked }
namespace Rows
def none {H : Type} : Left H := { results := [], args := [] }

/-- 'umbralaw22.WalkBoxes': WHATEVER THE INPUT: true; the input reads as it did. -/
def walkBoxesSpec : ChangeSpec := { name := "walkBoxes", fn := fun _ => fun
  | [d1, d2] => { results := [.lit (.bool true)], args := [d1, d2] }
  | _ => none }
def walkBoxesRow : OpenClaim := { program := "ytcookaiakfbdiaa", sum := "e04a38d8561db38b87389dced667dbcada2b3eb8adbef74e14e1c61e7d038a7d", func := "umbra/umbralaw22.WalkBoxes", spec := "walkBoxes", inPlace := ["math/bits.Sub64"], unfollowed := true, recurses := true, apart := false }
def WalkBoxesSaid : Prop := walkBoxesRow.holds Try.pinned (OpenSpec.ofChange walkBoxesSpec)

/-- ITS FALSE NEIGHBOUR: 'it returns false'. Refute it at one input. -/
def walkBoxesWrong : ChangeSpec := { name := "walkBoxes", fn := fun _ => fun
  | [d1, d2] => { results := [.lit (.bool false)], args := [d1, d2] }
  | _ => none }
def WalkBoxesWrongFalsely : Prop := walkBoxesRow.holds Try.pinned (OpenSpec.ofChange walkBoxesWrong)

/-- 'umbralaw22.WalkOrder': WHATEVER THE INPUT: true; the input reads as it did. -/
def walkOrderSpec : ChangeSpec := { name := "walkOrder", fn := fun _ => fun
  | [d1, d2] => { results := [.lit (.bool true)], args := [d1, d2] }
  | _ => none }
def walkOrderRow : OpenClaim := { program := "ytcookaiakfbdiaa", sum := "e04a38d8561db38b87389dced667dbcada2b3eb8adbef74e14e1c61e7d038a7d", func := "umbra/umbralaw22.WalkOrder", spec := "walkOrder", inPlace := ["math/bits.Sub64"], unfollowed := true, recurses := true, apart := false }
def WalkOrderSaid : Prop := walkOrderRow.holds Try.pinned (OpenSpec.ofChange walkOrderSpec)

/-- ITS FALSE NEIGHBOUR: 'it returns false'. Refute it at one input. -/
def walkOrderWrong : ChangeSpec := { name := "walkOrder", fn := fun _ => fun
  | [d1, d2] => { results := [.lit (.bool false)], args := [d1, d2] }
  | _ => none }
def WalkOrderWrongFalsely : Prop := walkOrderRow.holds Try.pinned (OpenSpec.ofChange walkOrderWrong)

/-- 'umbralaw22.WalkPlays': WHATEVER THE INPUT: true; the input reads as it did. -/
def walkPlaysSpec : ChangeSpec := { name := "walkPlays", fn := fun _ => fun
  | [d1, d2] => { results := [.lit (.bool true)], args := [d1, d2] }
  | _ => none }
def walkPlaysRow : OpenClaim := { program := "ytcookaiakfbdiaa", sum := "e04a38d8561db38b87389dced667dbcada2b3eb8adbef74e14e1c61e7d038a7d", func := "umbra/umbralaw22.WalkPlays", spec := "walkPlays", inPlace := ["math/bits.Sub64"], unfollowed := true, recurses := true, apart := false }
def WalkPlaysSaid : Prop := walkPlaysRow.holds Try.pinned (OpenSpec.ofChange walkPlaysSpec)

/-- ITS FALSE NEIGHBOUR: 'it returns false'. Refute it at one input. -/
def walkPlaysWrong : ChangeSpec := { name := "walkPlays", fn := fun _ => fun
  | [d1, d2] => { results := [.lit (.bool false)], args := [d1, d2] }
  | _ => none }
def WalkPlaysWrongFalsely : Prop := walkPlaysRow.holds Try.pinned (OpenSpec.ofChange walkPlaysWrong)

/-- 'umbralaw22.WalkSteps': WHATEVER THE INPUT: true; the input reads as it did. -/
def walkStepsSpec : ChangeSpec := { name := "walkSteps", fn := fun _ => fun
  | [d1, d2] => { results := [.lit (.bool true)], args := [d1, d2] }
  | _ => none }
def walkStepsRow : OpenClaim := { program := "ytcookaiakfbdiaa", sum := "e04a38d8561db38b87389dced667dbcada2b3eb8adbef74e14e1c61e7d038a7d", func := "umbra/umbralaw22.WalkSteps", spec := "walkSteps", inPlace := ["math/bits.Sub64"], unfollowed := true, recurses := true, apart := false }
def WalkStepsSaid : Prop := walkStepsRow.holds Try.pinned (OpenSpec.ofChange walkStepsSpec)

/-- ITS FALSE NEIGHBOUR: 'it returns false'. Refute it at one input. -/
def walkStepsWrong : ChangeSpec := { name := "walkSteps", fn := fun _ => fun
  | [d1, d2] => { results := [.lit (.bool false)], args := [d1, d2] }
  | _ => none }
def WalkStepsWrongFalsely : Prop := walkStepsRow.holds Try.pinned (OpenSpec.ofChange walkStepsWrong)

/-- 'umbralaw23.SweepWalks': WHATEVER THE INPUT: true; the input reads as it did. -/
def sweepWalksSpec : ChangeSpec := { name := "sweepWalks", fn := fun _ => fun
  | [d1, d2] => { results := [.lit (.bool true)], args := [d1, d2] }
  | _ => none }
def sweepWalksRow : OpenClaim := { program := "ytcookaiakfbdiaa", sum := "e04a38d8561db38b87389dced667dbcada2b3eb8adbef74e14e1c61e7d038a7d", func := "umbra/umbralaw23.SweepWalks", spec := "sweepWalks", inPlace := ["math/bits.Sub64"], unfollowed := true, recurses := true, apart := false }
def SweepWalksSaid : Prop := sweepWalksRow.holds Try.pinned (OpenSpec.ofChange sweepWalksSpec)

/-- ITS FALSE NEIGHBOUR: 'it returns false'. Refute it at one input. -/
def sweepWalksWrong : ChangeSpec := { name := "sweepWalks", fn := fun _ => fun
  | [d1, d2] => { results := [.lit (.bool false)], args := [d1, d2] }
  | _ => none }
def SweepWalksWrongFalsely : Prop := sweepWalksRow.holds Try.pinned (OpenSpec.ofChange sweepWalksWrong)

/- THE SECOND FORM. 'bulk': how many values and letters a reading holds, each counted each time it is reached (what is shared counts as often as it is met; a slice's spare places count too). A statement '..UptoSaid' is the law's where the arguments, and the package variables that the reading takes, are together of bulk at most 1048576: NARROWER than '..Said'. Prove '..Said' where nothing that the law and all that it calls make is longer than what came in: it says more and counts as full. Else prove '..UptoSaid'. A law counts once. -/
mutual
def uptoBulk {H : Type} : DataW H → Nat
  | .lit (.string bytes) => bytes.length + 1
  | .lit _ => 1
  | .nil => 1
  | .ptr d => uptoBulk d + 1
  | .slice elems spare => uptoBulkAll elems + uptoBulkAll spare + 1
  | .agg parts => uptoBulkAll parts + 1
  | .iface _ d => uptoBulk d + 1
  | .map entries => uptoBulkEntries entries + 1
  | .held _ => 1
def uptoBulkAll {H : Type} : List (DataW H) → Nat
  | [] => 0
  | d :: r => uptoBulk d + uptoBulkAll r
def uptoBulkEntries {H : Type} : List (Lit × DataW H) → Nat
  | [] => 0
  | x :: r => uptoBulkEntry x + uptoBulkEntries r
def uptoBulkEntry {H : Type} : Lit × DataW H → Nat
  | (.string bytes, d) => bytes.length + uptoBulk d + 1
  | (_, d) => uptoBulk d + 1
 end
def uptoSmall : (H : Type) → List (DataW H) → Bool := fun _ ds => decide (uptoBulkAll ds ≤ 1048576)
def OpenSpec.upto (s : _root_.Go.ChangeSpec) : _root_.Go.OpenSpec := { _root_.Go.OpenSpec.ofChange s with cond := some uptoSmall }

/-- 'umbralaw22.WalkBoxes', WHERE WHAT IT READS IS OF BULK AT MOST 1048576: true; the input reads as it did. -/
def walkBoxesUptoRow : OpenClaim := { program := "ytcookaiakfbdiaa", sum := "e04a38d8561db38b87389dced667dbcada2b3eb8adbef74e14e1c61e7d038a7d", func := "umbra/umbralaw22.WalkBoxes", spec := "walkBoxes", inPlace := ["math/bits.Sub64"], unfollowed := true, recurses := true, apart := false, narrowed := true }
def WalkBoxesUptoSaid : Prop := walkBoxesUptoRow.holds Try.pinned (OpenSpec.upto walkBoxesSpec)

/-- 'umbralaw22.WalkOrder', WHERE WHAT IT READS IS OF BULK AT MOST 1048576: true; the input reads as it did. -/
def walkOrderUptoRow : OpenClaim := { program := "ytcookaiakfbdiaa", sum := "e04a38d8561db38b87389dced667dbcada2b3eb8adbef74e14e1c61e7d038a7d", func := "umbra/umbralaw22.WalkOrder", spec := "walkOrder", inPlace := ["math/bits.Sub64"], unfollowed := true, recurses := true, apart := false, narrowed := true }
def WalkOrderUptoSaid : Prop := walkOrderUptoRow.holds Try.pinned (OpenSpec.upto walkOrderSpec)

/-- 'umbralaw22.WalkPlays', WHERE WHAT IT READS IS OF BULK AT MOST 1048576: true; the input reads as it did. -/
def walkPlaysUptoRow : OpenClaim := { program := "ytcookaiakfbdiaa", sum := "e04a38d8561db38b87389dced667dbcada2b3eb8adbef74e14e1c61e7d038a7d", func := "umbra/umbralaw22.WalkPlays", spec := "walkPlays", inPlace := ["math/bits.Sub64"], unfollowed := true, recurses := true, apart := false, narrowed := true }
def WalkPlaysUptoSaid : Prop := walkPlaysUptoRow.holds Try.pinned (OpenSpec.upto walkPlaysSpec)

/-- 'umbralaw22.WalkSteps', WHERE WHAT IT READS IS OF BULK AT MOST 1048576: true; the input reads as it did. -/
def walkStepsUptoRow : OpenClaim := { program := "ytcookaiakfbdiaa", sum := "e04a38d8561db38b87389dced667dbcada2b3eb8adbef74e14e1c61e7d038a7d", func := "umbra/umbralaw22.WalkSteps", spec := "walkSteps", inPlace := ["math/bits.Sub64"], unfollowed := true, recurses := true, apart := false, narrowed := true }
def WalkStepsUptoSaid : Prop := walkStepsUptoRow.holds Try.pinned (OpenSpec.upto walkStepsSpec)

/-- 'umbralaw23.SweepWalks', WHERE WHAT IT READS IS OF BULK AT MOST 1048576: true; the input reads as it did. -/
def sweepWalksUptoRow : OpenClaim := { program := "ytcookaiakfbdiaa", sum := "e04a38d8561db38b87389dced667dbcada2b3eb8adbef74e14e1c61e7d038a7d", func := "umbra/umbralaw23.SweepWalks", spec := "sweepWalks", inPlace := ["math/bits.Sub64"], unfollowed := true, recurses := true, apart := false, narrowed := true }
def SweepWalksUptoSaid : Prop := sweepWalksUptoRow.holds Try.pinned (OpenSpec.upto sweepWalksSpec)

end Rows
end Go.Proofs.Ytcookaiakfbdiaa
