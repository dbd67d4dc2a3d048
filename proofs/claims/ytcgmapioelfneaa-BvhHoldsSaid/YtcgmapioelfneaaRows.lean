/-
  No cell of these rows narrows 'for every input' (looked for: loops, veiled, ifaces, maps, wideKeys, modest, calm, conditions, laid).
  DERIVED. THE GIVEN ROWS OF THIS SEAT. 3 by the template 'for every input the law returns true; each argument reads behind the call as it read before'; 0 by the template 'total and deterministic' (their statements: YtcgmapioelfneaaTotals.lean).
  GIVEN WITH THE SEED: the statements are not yours to turn. If you find one false, say at which input.
  Laid BY PROGRAM, IN A SANDBOX (cutbox-rows.mjs): the forced cells as the released guide's own fill.sh prints them over the translation ce6aad8fff5c088a… (all of the seat's roots in one cut). By AI agents, Wed Nov 11 2026. No macro, syntax, notation, axiom, sorry.
-/
import Derived.Test.YtcgmapioelfneaaChecked
import GoSem.Claim
import GoSem.ClaimJoined
import GoSem.ClaimMapViews
import Derived.JoinedTies
import Derived.KernelRfl
namespace Go.Proofs.Ytcgmapioelfneaa
/- THE CELL 'sum', in the pinned program and in every row, IS THE sha256 OF THE DUMP (.gsa) THAT YtcgmapioelfneaaProg.lean LOADS. Nothing in Lean hashes anything: it is a label: what it is worth is what the hold of that sum in a sandbox is worth. -/
noncomputable def Try.pinned : Pinned := { name := "ytcgmapioelfneaa", sum := "ce6aad8fff5c088a3e537bc59d4edfd3f95c09c38ca70fa1a189528e5f5da901", checked := Try.checked }
namespace Rows
def none {H : Type} : Left H := { results := [], args := [] }

/-- 'umbralaw21.BvhBuilds': WHATEVER THE INPUT: true; the input reads as it did. -/
def bvhBuildsSpec : ChangeSpec := { name := "bvhBuilds", fn := fun _ => fun
  | [d] => { results := [.lit (.bool true)], args := [d] }
  | _ => none }
def bvhBuildsRow : OpenClaim := { program := "ytcgmapioelfneaa", sum := "ce6aad8fff5c088a3e537bc59d4edfd3f95c09c38ca70fa1a189528e5f5da901", func := "umbra/umbralaw21.BvhBuilds", spec := "bvhBuilds", unfollowed := true, recurses := true, apart := false }
def BvhBuildsSaid : Prop := bvhBuildsRow.holds Try.pinned (OpenSpec.ofChange bvhBuildsSpec)

/-- ITS FALSE NEIGHBOUR: 'it returns false'. Refute it at one input. -/
def bvhBuildsWrong : ChangeSpec := { name := "bvhBuilds", fn := fun _ => fun
  | [d] => { results := [.lit (.bool false)], args := [d] }
  | _ => none }
def BvhBuildsWrongFalsely : Prop := bvhBuildsRow.holds Try.pinned (OpenSpec.ofChange bvhBuildsWrong)

/-- 'umbralaw21.BvhHolds': WHATEVER THE INPUT: true; the input reads as it did. -/
def bvhHoldsSpec : ChangeSpec := { name := "bvhHolds", fn := fun _ => fun
  | [d] => { results := [.lit (.bool true)], args := [d] }
  | _ => none }
def bvhHoldsRow : OpenClaim := { program := "ytcgmapioelfneaa", sum := "ce6aad8fff5c088a3e537bc59d4edfd3f95c09c38ca70fa1a189528e5f5da901", func := "umbra/umbralaw21.BvhHolds", spec := "bvhHolds", unfollowed := true, recurses := true, apart := false }
def BvhHoldsSaid : Prop := bvhHoldsRow.holds Try.pinned (OpenSpec.ofChange bvhHoldsSpec)

/-- ITS FALSE NEIGHBOUR: 'it returns false'. Refute it at one input. -/
def bvhHoldsWrong : ChangeSpec := { name := "bvhHolds", fn := fun _ => fun
  | [d] => { results := [.lit (.bool false)], args := [d] }
  | _ => none }
def BvhHoldsWrongFalsely : Prop := bvhHoldsRow.holds Try.pinned (OpenSpec.ofChange bvhHoldsWrong)

/-- 'umbralaw21.BvhMany': WHATEVER THE INPUT: true; the input reads as it did. -/
def bvhManySpec : ChangeSpec := { name := "bvhMany", fn := fun _ => fun
  | [d1, d2] => { results := [.lit (.bool true)], args := [d1, d2] }
  | _ => none }
def bvhManyRow : OpenClaim := { program := "ytcgmapioelfneaa", sum := "ce6aad8fff5c088a3e537bc59d4edfd3f95c09c38ca70fa1a189528e5f5da901", func := "umbra/umbralaw21.BvhMany", spec := "bvhMany", unfollowed := true, recurses := true, apart := false }
def BvhManySaid : Prop := bvhManyRow.holds Try.pinned (OpenSpec.ofChange bvhManySpec)

/-- ITS FALSE NEIGHBOUR: 'it returns false'. Refute it at one input. -/
def bvhManyWrong : ChangeSpec := { name := "bvhMany", fn := fun _ => fun
  | [d1, d2] => { results := [.lit (.bool false)], args := [d1, d2] }
  | _ => none }
def BvhManyWrongFalsely : Prop := bvhManyRow.holds Try.pinned (OpenSpec.ofChange bvhManyWrong)

/- THE SECOND FORM. 'bulk': how many values and letters a reading holds, each counted each time it is reached (what is shared counts as often as it is met; a slice's spare places count too). A statement '..UptoSaid' is the law's where the arguments, and the package variables that the reading takes, are together of bulk at most 1048576: NARROWER than '..Said'. Prove '..Said' where nothing that the law and all that it calls make is longer than what came in: it says more and counts as full. Else prove '..UptoSaid'. A law counts once. -/
mutual
def uptoBulk {H : Type} : DataW H → Nat
  | .lit (.string bytes) => bytes.length + 1
  | .lit _ => 1
  | .nil => 1
  | .ptr d => uptoBulk d + 1
  | .slice elems spare => uptoBulkAll elems + uptoBulkAll spare + 1
  | .agg parts => uptoBulkAll parts + 1
  | .iface _ d => uptoBulk d + 1
  | .map entries => uptoBulkEntries entries + 1
  | .held _ => 1
def uptoBulkAll {H : Type} : List (DataW H) → Nat
  | [] => 0
  | d :: r => uptoBulk d + uptoBulkAll r
def uptoBulkEntries {H : Type} : List (Lit × DataW H) → Nat
  | [] => 0
  | x :: r => uptoBulkEntry x + uptoBulkEntries r
def uptoBulkEntry {H : Type} : Lit × DataW H → Nat
  | (.string bytes, d) => bytes.length + uptoBulk d + 1
  | (_, d) => uptoBulk d + 1
 end
def uptoSmall : (H : Type) → List (DataW H) → Bool := fun _ ds => decide (uptoBulkAll ds ≤ 1048576)
def OpenSpec.upto (s : _root_.Go.ChangeSpec) : _root_.Go.OpenSpec := { _root_.Go.OpenSpec.ofChange s with cond := some uptoSmall }

/-- 'umbralaw21.BvhBuilds', WHERE WHAT IT READS IS OF BULK AT MOST 1048576: true; the input reads as it did. -/
def bvhBuildsUptoRow : OpenClaim := { program := "ytcgmapioelfneaa", sum := "ce6aad8fff5c088a3e537bc59d4edfd3f95c09c38ca70fa1a189528e5f5da901", func := "umbra/umbralaw21.BvhBuilds", spec := "bvhBuilds", unfollowed := true, recurses := true, apart := false, narrowed := true }
def BvhBuildsUptoSaid : Prop := bvhBuildsUptoRow.holds Try.pinned (OpenSpec.upto bvhBuildsSpec)

/-- 'umbralaw21.BvhHolds', WHERE WHAT IT READS IS OF BULK AT MOST 1048576: true; the input reads as it did. -/
def bvhHoldsUptoRow : OpenClaim := { program := "ytcgmapioelfneaa", sum := "ce6aad8fff5c088a3e537bc59d4edfd3f95c09c38ca70fa1a189528e5f5da901", func := "umbra/umbralaw21.BvhHolds", spec := "bvhHolds", unfollowed := true, recurses := true, apart := false, narrowed := true }
def BvhHoldsUptoSaid : Prop := bvhHoldsUptoRow.holds Try.pinned (OpenSpec.upto bvhHoldsSpec)

/-- 'umbralaw21.BvhMany', WHERE WHAT IT READS IS OF BULK AT MOST 1048576: true; the input reads as it did. -/
def bvhManyUptoRow : OpenClaim := { program := "ytcgmapioelfneaa", sum := "ce6aad8fff5c088a3e537bc59d4edfd3f95c09c38ca70fa1a189528e5f5da901", func := "umbra/umbralaw21.BvhMany", spec := "bvhMany", unfollowed := true, recurses := true, apart := false, narrowed := true }
def BvhManyUptoSaid : Prop := bvhManyUptoRow.holds Try.pinned (OpenSpec.upto bvhManySpec)

end Rows
end Go.Proofs.Ytcgmapioelfneaa
