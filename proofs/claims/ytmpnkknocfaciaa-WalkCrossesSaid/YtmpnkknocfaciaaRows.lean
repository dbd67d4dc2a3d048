/-
  No cell of these rows narrows 'for every input' (looked for: loops, veiled, ifaces, maps, wideKeys, modest, calm, conditions, laid).
  DERIVED. THE GIVEN ROWS OF THIS SEAT. 9 by the template 'for every input the law returns true; each argument reads behind the call as it read before'; 0 by the template 'total and deterministic' (their statements: YtmpnkknocfaciaaTotals.lean).
  GIVEN WITH THE SEED: the statements are not yours to turn. If you find one false, say at which input.
  Laid BY PROGRAM, IN A SANDBOX (cutbox-rows.mjs): the forced cells as the released guide's own fill.sh prints them over the translation d73f5be7fcaf04f7… (all of the seat's roots in one cut). By AI agents, Wed Nov 11 2026. No macro, syntax, notation, axiom, sorry.
-/
import Derived.Test.YtmpnkknocfaciaaChecked
import GoSem.Claim
import GoSem.ClaimJoined
import GoSem.ClaimMapViews
import Derived.JoinedTies
import Derived.KernelRfl
namespace Go.Proofs.Ytmpnkknocfaciaa
/- THE CELL 'sum', in the pinned program and in every row, IS THE sha256 OF THE DUMP (.gsa) THAT YtmpnkknocfaciaaProg.lean LOADS. Nothing in Lean hashes anything: it is a label: what it is worth is what the hold of that sum in a sandbox is worth. -/
noncomputable def Try.pinned : Pinned := { name := "ytmpnkknocfaciaa", sum := "d73f5be7fcaf04f73460361cf3227105d16b1d36e302cf92345aa84ff13031b9", checked := Try.checked }
namespace Rows
def none {H : Type} : Left H := { results := [], args := [] }

/-- 'umbralaw21.BvhBuilds': WHATEVER THE INPUT: true; the input reads as it did. -/
def bvhBuildsSpec : ChangeSpec := { name := "bvhBuilds", fn := fun _ => fun
  | [d] => { results := [.lit (.bool true)], args := [d] }
  | _ => none }
def bvhBuildsRow : OpenClaim := { program := "ytmpnkknocfaciaa", sum := "d73f5be7fcaf04f73460361cf3227105d16b1d36e302cf92345aa84ff13031b9", func := "umbra/umbralaw21.BvhBuilds", spec := "bvhBuilds", unfollowed := true, recurses := true, apart := false }
def BvhBuildsSaid : Prop := bvhBuildsRow.holds Try.pinned (OpenSpec.ofChange bvhBuildsSpec)

/-- ITS FALSE NEIGHBOUR: 'it returns false'. Refute it at one input. -/
def bvhBuildsWrong : ChangeSpec := { name := "bvhBuilds", fn := fun _ => fun
  | [d] => { results := [.lit (.bool false)], args := [d] }
  | _ => none }
def BvhBuildsWrongFalsely : Prop := bvhBuildsRow.holds Try.pinned (OpenSpec.ofChange bvhBuildsWrong)

/-- 'umbralaw21.BvhHolds': WHATEVER THE INPUT: true; the input reads as it did. -/
def bvhHoldsSpec : ChangeSpec := { name := "bvhHolds", fn := fun _ => fun
  | [d] => { results := [.lit (.bool true)], args := [d] }
  | _ => none }
def bvhHoldsRow : OpenClaim := { program := "ytmpnkknocfaciaa", sum := "d73f5be7fcaf04f73460361cf3227105d16b1d36e302cf92345aa84ff13031b9", func := "umbra/umbralaw21.BvhHolds", spec := "bvhHolds", unfollowed := true, recurses := true, apart := false }
def BvhHoldsSaid : Prop := bvhHoldsRow.holds Try.pinned (OpenSpec.ofChange bvhHoldsSpec)

/-- ITS FALSE NEIGHBOUR: 'it returns false'. Refute it at one input. -/
def bvhHoldsWrong : ChangeSpec := { name := "bvhHolds", fn := fun _ => fun
  | [d] => { results := [.lit (.bool false)], args := [d] }
  | _ => none }
def BvhHoldsWrongFalsely : Prop := bvhHoldsRow.holds Try.pinned (OpenSpec.ofChange bvhHoldsWrong)

/-- 'umbralaw21.BvhMany': WHATEVER THE INPUT: true; the input reads as it did. -/
def bvhManySpec : ChangeSpec := { name := "bvhMany", fn := fun _ => fun
  | [d1, d2] => { results := [.lit (.bool true)], args := [d1, d2] }
  | _ => none }
def bvhManyRow : OpenClaim := { program := "ytmpnkknocfaciaa", sum := "d73f5be7fcaf04f73460361cf3227105d16b1d36e302cf92345aa84ff13031b9", func := "umbra/umbralaw21.BvhMany", spec := "bvhMany", unfollowed := true, recurses := true, apart := false }
def BvhManySaid : Prop := bvhManyRow.holds Try.pinned (OpenSpec.ofChange bvhManySpec)

/-- ITS FALSE NEIGHBOUR: 'it returns false'. Refute it at one input. -/
def bvhManyWrong : ChangeSpec := { name := "bvhMany", fn := fun _ => fun
  | [d1, d2] => { results := [.lit (.bool false)], args := [d1, d2] }
  | _ => none }
def BvhManyWrongFalsely : Prop := bvhManyRow.holds Try.pinned (OpenSpec.ofChange bvhManyWrong)

/-- 'umbralaw22.WalkCrosses': WHATEVER THE INPUT: true; the input reads as it did. -/
def walkCrossesSpec : ChangeSpec := { name := "walkCrosses", fn := fun _ => fun
  | [d1, d2, d3] => { results := [.lit (.bool true)], args := [d1, d2, d3] }
  | _ => none }
def walkCrossesRow : OpenClaim := { program := "ytmpnkknocfaciaa", sum := "d73f5be7fcaf04f73460361cf3227105d16b1d36e302cf92345aa84ff13031b9", func := "umbra/umbralaw22.WalkCrosses", spec := "walkCrosses", inPlace := ["math/bits.Sub64"], unfollowed := true, recurses := true, apart := false }
def WalkCrossesSaid : Prop := walkCrossesRow.holds Try.pinned (OpenSpec.ofChange walkCrossesSpec)

/-- ITS FALSE NEIGHBOUR: 'it returns false'. Refute it at one input. -/
def walkCrossesWrong : ChangeSpec := { name := "walkCrosses", fn := fun _ => fun
  | [d1, d2, d3] => { results := [.lit (.bool false)], args := [d1, d2, d3] }
  | _ => none }
def WalkCrossesWrongFalsely : Prop := walkCrossesRow.holds Try.pinned (OpenSpec.ofChange walkCrossesWrong)

/-- 'umbralaw22.WalkBoxes': WHATEVER THE INPUT: true; the input reads as it did. -/
def walkBoxesSpec : ChangeSpec := { name := "walkBoxes", fn := fun _ => fun
  | [d1, d2] => { results := [.lit (.bool true)], args := [d1, d2] }
  | _ => none }
def walkBoxesRow : OpenClaim := { program := "ytmpnkknocfaciaa", sum := "d73f5be7fcaf04f73460361cf3227105d16b1d36e302cf92345aa84ff13031b9", func := "umbra/umbralaw22.WalkBoxes", spec := "walkBoxes", inPlace := ["math/bits.Sub64"], unfollowed := true, recurses := true, apart := false }
def WalkBoxesSaid : Prop := walkBoxesRow.holds Try.pinned (OpenSpec.ofChange walkBoxesSpec)

/-- ITS FALSE NEIGHBOUR: 'it returns false'. Refute it at one input. -/
def walkBoxesWrong : ChangeSpec := { name := "walkBoxes", fn := fun _ => fun
  | [d1, d2] => { results := [.lit (.bool false)], args := [d1, d2] }
  | _ => none }
def WalkBoxesWrongFalsely : Prop := walkBoxesRow.holds Try.pinned (OpenSpec.ofChange walkBoxesWrong)

/-- 'umbralaw22.WalkOrder': WHATEVER THE INPUT: true; the input reads as it did. -/
def walkOrderSpec : ChangeSpec := { name := "walkOrder", fn := fun _ => fun
  | [d1, d2] => { results := [.lit (.bool true)], args := [d1, d2] }
  | _ => none }
def walkOrderRow : OpenClaim := { program := "ytmpnkknocfaciaa", sum := "d73f5be7fcaf04f73460361cf3227105d16b1d36e302cf92345aa84ff13031b9", func := "umbra/umbralaw22.WalkOrder", spec := "walkOrder", inPlace := ["math/bits.Sub64"], unfollowed := true, recurses := true, apart := false }
def WalkOrderSaid : Prop := walkOrderRow.holds Try.pinned (OpenSpec.ofChange walkOrderSpec)

/-- ITS FALSE NEIGHBOUR: 'it returns false'. Refute it at one input. -/
def walkOrderWrong : ChangeSpec := { name := "walkOrder", fn := fun _ => fun
  | [d1, d2] => { results := [.lit (.bool false)], args := [d1, d2] }
  | _ => none }
def WalkOrderWrongFalsely : Prop := walkOrderRow.holds Try.pinned (OpenSpec.ofChange walkOrderWrong)

/-- 'umbralaw22.WalkPlays': WHATEVER THE INPUT: true; the input reads as it did. -/
def walkPlaysSpec : ChangeSpec := { name := "walkPlays", fn := fun _ => fun
  | [d1, d2] => { results := [.lit (.bool true)], args := [d1, d2] }
  | _ => none }
def walkPlaysRow : OpenClaim := { program := "ytmpnkknocfaciaa", sum := "d73f5be7fcaf04f73460361cf3227105d16b1d36e302cf92345aa84ff13031b9", func := "umbra/umbralaw22.WalkPlays", spec := "walkPlays", inPlace := ["math/bits.Sub64"], unfollowed := true, recurses := true, apart := false }
def WalkPlaysSaid : Prop := walkPlaysRow.holds Try.pinned (OpenSpec.ofChange walkPlaysSpec)

/-- ITS FALSE NEIGHBOUR: 'it returns false'. Refute it at one input. -/
def walkPlaysWrong : ChangeSpec := { name := "walkPlays", fn := fun _ => fun
  | [d1, d2] => { results := [.lit (.bool false)], args := [d1, d2] }
  | _ => none }
def WalkPlaysWrongFalsely : Prop := walkPlaysRow.holds Try.pinned (OpenSpec.ofChange walkPlaysWrong)

/-- 'umbralaw22.WalkSteps': WHATEVER THE INPUT: true; the input reads as it did. -/
def walkStepsSpec : ChangeSpec := { name := "walkSteps", fn := fun _ => fun
  | [d1, d2] => { results := [.lit (.bool true)], args := [d1, d2] }
  | _ => none }
def walkStepsRow : OpenClaim := { program := "ytmpnkknocfaciaa", sum := "d73f5be7fcaf04f73460361cf3227105d16b1d36e302cf92345aa84ff13031b9", func := "umbra/umbralaw22.WalkSteps", spec := "walkSteps", inPlace := ["math/bits.Sub64"], unfollowed := true, recurses := true, apart := false }
def WalkStepsSaid : Prop := walkStepsRow.holds Try.pinned (OpenSpec.ofChange walkStepsSpec)

/-- ITS FALSE NEIGHBOUR: 'it returns false'. Refute it at one input. -/
def walkStepsWrong : ChangeSpec := { name := "walkSteps", fn := fun _ => fun
  | [d1, d2] => { results := [.lit (.bool false)], args := [d1, d2] }
  | _ => none }
def WalkStepsWrongFalsely : Prop := walkStepsRow.holds Try.pinned (OpenSpec.ofChange walkStepsWrong)

/-- 'umbralaw23.SweepWalks': WHATEVER THE INPUT: true; the input reads as it did. -/
def sweepWalksSpec : ChangeSpec := { name := "sweepWalks", fn := fun _ => fun
  | [d1, d2] => { results := [.lit (.bool true)], args := [d1, d2] }
  | _ => none }
def sweepWalksRow : OpenClaim := { program := "ytmpnkknocfaciaa", sum := "d73f5be7fcaf04f73460361cf3227105d16b1d36e302cf92345aa84ff13031b9", func := "umbra/umbralaw23.SweepWalks", spec := "sweepWalks", inPlace := ["math/bits.Sub64"], unfollowed := true, recurses := true, apart := false }
def SweepWalksSaid : Prop := sweepWalksRow.holds Try.pinned (OpenSpec.ofChange sweepWalksSpec)

/-- ITS FALSE NEIGHBOUR: 'it returns false'. Refute it at one input. -/
def sweepWalksWrong : ChangeSpec := { name := "sweepWalks", fn := fun _ => fun
  | [d1, d2] => { results := [.lit (.bool false)], args := [d1, d2] }
  | _ => none }
def SweepWalksWrongFalsely : Prop := sweepWalksRow.holds Try.pinned (OpenSpec.ofChange sweepWalksWrong)

/- THE SECOND FORM. 'bulk': how many values and letters a reading holds, each counted each time it is reached (what is shared counts as often as it is met; a slice's spare places count too). A statement '..UptoSaid' is the law's where the arguments, and the package variables that the reading takes, are together of bulk at most 1048576: NARROWER than '..Said'. Prove '..Said' where nothing that the law and all that it calls make is longer than what came in: it says more and counts as full. Else prove '..UptoSaid'. A law counts once. -/
mutual
def uptoBulk {H : Type} : DataW H → Nat
  | .lit (.string bytes) => bytes.length + 1
  | .lit _ => 1
  | .nil => 1
  | .ptr d => uptoBulk d + 1
  | .slice elems spare => uptoBulkAll elems + uptoBulkAll spare + 1
  | .agg parts => uptoBulkAll parts + 1
  | .iface _ d => uptoBulk d + 1
  | .map entries => uptoBulkEntries entries + 1
  | .held _ => 1
def uptoBulkAll {H : Type} : List (DataW H) → Nat
  | [] => 0
  | d :: r => uptoBulk d + uptoBulkAll r
def uptoBulkEntries {H : Type} : List (Lit × DataW H) → Nat
  | [] => 0
  | x :: r => uptoBulkEntry x + uptoBulkEntries r
def uptoBulkEntry {H : Type} : Lit × DataW H → Nat
  | (.string bytes, d) => bytes.length + uptoBulk d + 1
  | (_, d) => uptoBulk d + 1
 end
def uptoSmall : (H : Type) → List (DataW H) → Bool := fun _ ds => decide (uptoBulkAll ds ≤ 1048576)
def OpenSpec.upto (s : _root_.Go.ChangeSpec) : _root_.Go.OpenSpec := { _root_.Go.OpenSpec.ofChange s with cond := some uptoSmall }

/-- 'umbralaw21.BvhBuilds', WHERE WHAT IT READS IS OF BULK AT MOST 1048576: true; the input reads as it did. -/
def bvhBuildsUptoRow : OpenClaim := { program := "ytmpnkknocfaciaa", sum := "d73f5be7fcaf04f73460361cf3227105d16b1d36e302cf92345aa84ff13031b9", func := "umbra/umbralaw21.BvhBuilds", spec := "bvhBuilds", unfollowed := true, recurses := true, apart := false, narrowed := true }
def BvhBuildsUptoSaid : Prop := bvhBuildsUptoRow.holds Try.pinned (OpenSpec.upto bvhBuildsSpec)

/-- 'umbralaw21.BvhHolds', WHERE WHAT IT READS IS OF BULK AT MOST 1048576: true; the input reads as it did. -/
def bvhHoldsUptoRow : OpenClaim := { program := "ytmpnkknocfaciaa", sum := "d73f5be7fcaf04f73460361cf3227105d16b1d36e302cf92345aa84ff13031b9", func := "umbra/umbralaw21.BvhHolds", spec := "bvhHolds", unfollowed := true, recurses := true, apart := false, narrowed := true }
def BvhHoldsUptoSaid : Prop := bvhHoldsUptoRow.holds Try.pinned (OpenSpec.upto bvhHoldsSpec)

/-- 'umbralaw21.BvhMany', WHERE WHAT IT READS IS OF BULK AT MOST 1048576: true; the input reads as it did. -/
def bvhManyUptoRow : OpenClaim := { program := "ytmpnkknocfaciaa", sum := "d73f5be7fcaf04f73460361cf3227105d16b1d36e302cf92345aa84ff13031b9", func := "umbra/umbralaw21.BvhMany", spec := "bvhMany", unfollowed := true, recurses := true, apart := false, narrowed := true }
def BvhManyUptoSaid : Prop := bvhManyUptoRow.holds Try.pinned (OpenSpec.upto bvhManySpec)

/-- 'umbralaw22.WalkCrosses', WHERE WHAT IT READS IS OF BULK AT MOST 1048576: true; the input reads as it did. -/
def walkCrossesUptoRow : OpenClaim := { program := "ytmpnkknocfaciaa", sum := "d73f5be7fcaf04f73460361cf3227105d16b1d36e302cf92345aa84ff13031b9", func := "umbra/umbralaw22.WalkCrosses", spec := "walkCrosses", inPlace := ["math/bits.Sub64"], unfollowed := true, recurses := true, apart := false, narrowed := true }
def WalkCrossesUptoSaid : Prop := walkCrossesUptoRow.holds Try.pinned (OpenSpec.upto walkCrossesSpec)

/-- 'umbralaw22.WalkBoxes', WHERE WHAT IT READS IS OF BULK AT MOST 1048576: true; the input reads as it did. -/
def walkBoxesUptoRow : OpenClaim := { program := "ytmpnkknocfaciaa", sum := "d73f5be7fcaf04f73460361cf3227105d16b1d36e302cf92345aa84ff13031b9", func := "umbra/umbralaw22.WalkBoxes", spec := "walkBoxes", inPlace := ["math/bits.Sub64"], unfollowed := true, recurses := true, apart := false, narrowed := true }
def WalkBoxesUptoSaid : Prop := walkBoxesUptoRow.holds Try.pinned (OpenSpec.upto walkBoxesSpec)

/-- 'umbralaw22.WalkOrder', WHERE WHAT IT READS IS OF BULK AT MOST 1048576: true; the input reads as it did. -/
def walkOrderUptoRow : OpenClaim := { program := "ytmpnkknocfaciaa", sum := "d73f5be7fcaf04f73460361cf3227105d16b1d36e302cf92345aa84ff13031b9", func := "umbra/umbralaw22.WalkOrder", spec := "walkOrder", inPlace := ["math/bits.Sub64"], unfollowed := true, recurses := true, apart := false, narrowed := true }
def WalkOrderUptoSaid : Prop := walkOrderUptoRow.holds Try.pinned (OpenSpec.upto walkOrderSpec)

/-- 'umbralaw22.WalkPlays', WHERE WHAT IT READS IS OF BULK AT MOST 1048576: true; the input reads as it did. -/
def walkPlaysUptoRow : OpenClaim := { program := "ytmpnkknocfaciaa", sum := "d73f5be7fcaf04f73460361cf3227105d16b1d36e302cf92345aa84ff13031b9", func := "umbra/umbralaw22.WalkPlays", spec := "walkPlays", inPlace := ["math/bits.Sub64"], unfollowed := true, recurses := true, apart := false, narrowed := true }
def WalkPlaysUptoSaid : Prop := walkPlaysUptoRow.holds Try.pinned (OpenSpec.upto walkPlaysSpec)

/-- 'umbralaw22.WalkSteps', WHERE WHAT IT READS IS OF BULK AT MOST 1048576: true; the input reads as it did. -/
def walkStepsUptoRow : OpenClaim := { program := "ytmpnkknocfaciaa", sum := "d73f5be7fcaf04f73460361cf3227105d16b1d36e302cf92345aa84ff13031b9", func := "umbra/umbralaw22.WalkSteps", spec := "walkSteps", inPlace := ["math/bits.Sub64"], unfollowed := true, recurses := true, apart := false, narrowed := true }
def WalkStepsUptoSaid : Prop := walkStepsUptoRow.holds Try.pinned (OpenSpec.upto walkStepsSpec)

/-- 'umbralaw23.SweepWalks', WHERE WHAT IT READS IS OF BULK AT MOST 1048576: true; the input reads as it did. -/
def sweepWalksUptoRow : OpenClaim := { program := "ytmpnkknocfaciaa", sum := "d73f5be7fcaf04f73460361cf3227105d16b1d36e302cf92345aa84ff13031b9", func := "umbra/umbralaw23.SweepWalks", spec := "sweepWalks", inPlace := ["math/bits.Sub64"], unfollowed := true, recurses := true, apart := false, narrowed := true }
def SweepWalksUptoSaid : Prop := sweepWalksUptoRow.holds Try.pinned (OpenSpec.upto sweepWalksSpec)

end Rows
end Go.Proofs.Ytmpnkknocfaciaa
