/-
  No cell of these rows narrows 'for every input' (looked for: loops, veiled, ifaces, maps, wideKeys, modest, calm, conditions, laid).
  DERIVED. THE GIVEN ROWS OF THIS SEAT. 3 by the template 'for every input the law returns true; each argument reads behind the call as it read before'; 0 by the template 'total and deterministic' (their statements: YtgjlpnendljcaaaTotals.lean).
  GIVEN WITH THE SEED: the statements are not yours to turn. If you find one false, say at which input.
  Laid BY PROGRAM, IN A SANDBOX (cutbox-rows.mjs): the forced cells as the released guide's own fill.sh prints them over the translation bd8736eec8b68a74… (all of the seat's roots in one cut). By AI agents, Wed Nov 11 2026. No macro, syntax, notation, axiom, sorry.
-/
import Derived.Test.YtgjlpnendljcaaaChecked
import GoSem.Claim
import GoSem.ClaimJoined
import GoSem.ClaimMapViews
import Derived.JoinedTies
import Derived.KernelRfl
namespace Go.Proofs.Ytgjlpnendljcaaa
/- THE CELL 'sum', in the pinned program and in every row, IS THE sha256 OF THE DUMP (.gsa) THAT YtgjlpnendljcaaaProg.lean LOADS. Nothing in Lean hashes anything: it is a label: what it is worth is what the hold of that sum in a sandbox is worth. -/
noncomputable def Try.pinned : Pinned := { name := "ytgjlpnendljcaaa", sum := "bd8736eec8b68a749d78ee7c85b3a5acd295240d0cd59a7a93cc89a98cb5b481", checked := Try.checked }
namespace Rows
def none {H : Type} : Left H := { results := [], args := [] }

/-- 'umbralaw23.SweepPlays': WHATEVER THE INPUT: true; the input reads as it did. -/
def sweepPlaysSpec : ChangeSpec := { name := "sweepPlays", fn := fun _ => fun
  | [d1, d2, d3] => { results := [.lit (.bool true)], args := [d1, d2, d3] }
  | _ => none }
def sweepPlaysRow : OpenClaim := { program := "ytgjlpnendljcaaa", sum := "bd8736eec8b68a749d78ee7c85b3a5acd295240d0cd59a7a93cc89a98cb5b481", func := "umbra/umbralaw23.SweepPlays", spec := "sweepPlays", inPlace := ["math/bits.Sub64"], unfollowed := true, recurses := true, apart := false }
def SweepPlaysSaid : Prop := sweepPlaysRow.holds Try.pinned (OpenSpec.ofChange sweepPlaysSpec)

/-- ITS FALSE NEIGHBOUR: 'it returns false'. Refute it at one input. -/
def sweepPlaysWrong : ChangeSpec := { name := "sweepPlays", fn := fun _ => fun
  | [d1, d2, d3] => { results := [.lit (.bool false)], args := [d1, d2, d3] }
  | _ => none }
def SweepPlaysWrongFalsely : Prop := sweepPlaysRow.holds Try.pinned (OpenSpec.ofChange sweepPlaysWrong)

/-- 'umbralaw23.SweepSteps': WHATEVER THE INPUT: true; the input reads as it did. -/
def sweepStepsSpec : ChangeSpec := { name := "sweepSteps", fn := fun _ => fun
  | [d1, d2, d3] => { results := [.lit (.bool true)], args := [d1, d2, d3] }
  | _ => none }
def sweepStepsRow : OpenClaim := { program := "ytgjlpnendljcaaa", sum := "bd8736eec8b68a749d78ee7c85b3a5acd295240d0cd59a7a93cc89a98cb5b481", func := "umbra/umbralaw23.SweepSteps", spec := "sweepSteps", inPlace := ["math/bits.Sub64"], unfollowed := true, recurses := true, apart := false }
def SweepStepsSaid : Prop := sweepStepsRow.holds Try.pinned (OpenSpec.ofChange sweepStepsSpec)

/-- ITS FALSE NEIGHBOUR: 'it returns false'. Refute it at one input. -/
def sweepStepsWrong : ChangeSpec := { name := "sweepSteps", fn := fun _ => fun
  | [d1, d2, d3] => { results := [.lit (.bool false)], args := [d1, d2, d3] }
  | _ => none }
def SweepStepsWrongFalsely : Prop := sweepStepsRow.holds Try.pinned (OpenSpec.ofChange sweepStepsWrong)

/-- 'umbralaw23.SweepRoom': WHATEVER THE INPUT: true; the input reads as it did. -/
def sweepRoomSpec : ChangeSpec := { name := "sweepRoom", fn := fun _ => fun
  | [d1, d2, d3] => { results := [.lit (.bool true)], args := [d1, d2, d3] }
  | _ => none }
def sweepRoomRow : OpenClaim := { program := "ytgjlpnendljcaaa", sum := "bd8736eec8b68a749d78ee7c85b3a5acd295240d0cd59a7a93cc89a98cb5b481", func := "umbra/umbralaw23.SweepRoom", spec := "sweepRoom", inPlace := ["math/bits.Sub64"], unfollowed := true, recurses := true, apart := false }
def SweepRoomSaid : Prop := sweepRoomRow.holds Try.pinned (OpenSpec.ofChange sweepRoomSpec)

/-- ITS FALSE NEIGHBOUR: 'it returns false'. Refute it at one input. -/
def sweepRoomWrong : ChangeSpec := { name := "sweepRoom", fn := fun _ => fun
  | [d1, d2, d3] => { results := [.lit (.bool false)], args := [d1, d2, d3] }
  | _ => none }
def SweepRoomWrongFalsely : Prop := sweepRoomRow.holds Try.pinned (OpenSpec.ofChange sweepRoomWrong)

/- THE SECOND FORM. 'bulk': how many values and letters a reading holds, each counted each time it is reached (what is shared counts as often as it is met; a slice's spare places count too). A statement '..UptoSaid' is the law's where the arguments, and the package variables that the reading takes, are together of bulk at most 1048576: NARROWER than '..Said'. Prove '..Said' where nothing that the law and all that it calls make is longer than what came in: it says more and counts as full. Else prove '..UptoSaid'. A law counts once. -/
mutual
def uptoBulk {H : Type} : DataW H → Nat
  | .lit (.string bytes) => bytes.length + 1
  | .lit _ => 1
  | .nil => 1
  | .ptr d => uptoBulk d + 1
  | .slice elems spare => uptoBulkAll elems + uptoBulkAll spare + 1
  | .agg parts => uptoBulkAll parts + 1
  | .iface _ d => uptoBulk d + 1
  | .map entries => uptoBulkEntries entries + 1
  | .held _ => 1
def uptoBulkAll {H : Type} : List (DataW H) → Nat
  | [] => 0
  | d :: r => uptoBulk d + uptoBulkAll r
def uptoBulkEntries {H : Type} : List (Lit × DataW H) → Nat
  | [] => 0
  | x :: r => uptoBulkEntry x + uptoBulkEntries r
def uptoBulkEntry {H : Type} : Lit × DataW H → Nat
  | (.string bytes, d) => bytes.length + uptoBulk d + 1
  | (_, d) => uptoBulk d + 1
 end
def uptoSmall : (H : Type) → List (DataW H) → Bool := fun _ ds => decide (uptoBulkAll ds ≤ 1048576)
def OpenSpec.upto (s : _root_.Go.ChangeSpec) : _root_.Go.OpenSpec := { _root_.Go.OpenSpec.ofChange s with cond := some uptoSmall }

/-- 'umbralaw23.SweepPlays', WHERE WHAT IT READS IS OF BULK AT MOST 1048576: true; the input reads as it did. -/
def sweepPlaysUptoRow : OpenClaim := { program := "ytgjlpnendljcaaa", sum := "bd8736eec8b68a749d78ee7c85b3a5acd295240d0cd59a7a93cc89a98cb5b481", func := "umbra/umbralaw23.SweepPlays", spec := "sweepPlays", inPlace := ["math/bits.Sub64"], unfollowed := true, recurses := true, apart := false, narrowed := true }
def SweepPlaysUptoSaid : Prop := sweepPlaysUptoRow.holds Try.pinned (OpenSpec.upto sweepPlaysSpec)

/-- 'umbralaw23.SweepSteps', WHERE WHAT IT READS IS OF BULK AT MOST 1048576: true; the input reads as it did. -/
def sweepStepsUptoRow : OpenClaim := { program := "ytgjlpnendljcaaa", sum := "bd8736eec8b68a749d78ee7c85b3a5acd295240d0cd59a7a93cc89a98cb5b481", func := "umbra/umbralaw23.SweepSteps", spec := "sweepSteps", inPlace := ["math/bits.Sub64"], unfollowed := true, recurses := true, apart := false, narrowed := true }
def SweepStepsUptoSaid : Prop := sweepStepsUptoRow.holds Try.pinned (OpenSpec.upto sweepStepsSpec)

/-- 'umbralaw23.SweepRoom', WHERE WHAT IT READS IS OF BULK AT MOST 1048576: true; the input reads as it did. -/
def sweepRoomUptoRow : OpenClaim := { program := "ytgjlpnendljcaaa", sum := "bd8736eec8b68a749d78ee7c85b3a5acd295240d0cd59a7a93cc89a98cb5b481", func := "umbra/umbralaw23.SweepRoom", spec := "sweepRoom", inPlace := ["math/bits.Sub64"], unfollowed := true, recurses := true, apart := false, narrowed := true }
def SweepRoomUptoSaid : Prop := sweepRoomUptoRow.holds Try.pinned (OpenSpec.upto sweepRoomSpec)

end Rows
end Go.Proofs.Ytgjlpnendljcaaa
