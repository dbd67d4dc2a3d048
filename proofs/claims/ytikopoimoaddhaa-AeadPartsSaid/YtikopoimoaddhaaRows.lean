/-
  No cell of these rows narrows 'for every input' (looked for: loops, veiled, ifaces, maps, wideKeys, modest, calm, conditions, laid).
  DERIVED. THE GIVEN ROWS OF THIS SEAT. 24 by the template 'for every input the law returns true; each argument reads behind the call as it read before'; 0 by the template 'total and deterministic' (their statements: YtikopoimoaddhaaTotals.lean).
  GIVEN WITH THE SEED: the statements are not yours to turn. If you find one false, say at which input.
  Laid BY PROGRAM, IN A SANDBOX (cutbox-rows.mjs): the forced cells as the released guide's own fill.sh prints them over the translation e8e5fca7beb41751… (all of the seat's roots in one cut). By AI agents, Wed Nov 11 2026. No macro, syntax, notation, axiom, sorry.
-/
import Derived.Test.YtikopoimoaddhaaChecked
import GoSem.Claim
import GoSem.ClaimJoined
import GoSem.ClaimMapViews
import Derived.JoinedTies
import Derived.KernelRfl
namespace Go.Proofs.Ytikopoimoaddhaa
/- THE CELL 'sum', in the pinned program and in every row, IS THE sha256 OF THE DUMP (.gsa) THAT YtikopoimoaddhaaProg.lean LOADS. Nothing in Lean hashes anything: it is a label: what it is worth is what the hold of that sum in a sandbox is worth. -/
noncomputable def Try.pinned : Pinned := { name := "ytikopoimoaddhaa", sum := "e8e5fca7beb417512f25661a7cba45390bb96f5b778323a1247978c16a38a666", checked := Try.checked }
namespace Rows
def none {H : Type} : Left H := { results := [], args := [] }

/-- 'umbralaw10.StreamBelow': WHATEVER THE INPUT: true; the input reads as it did. -/
def streamBelowSpec : ChangeSpec := { name := "streamBelow", fn := fun _ => fun
  | [d1, d2, d3] => { results := [.lit (.bool true)], args := [d1, d2, d3] }
  | _ => none }
def streamBelowRow : OpenClaim := { program := "ytikopoimoaddhaa", sum := "e8e5fca7beb417512f25661a7cba45390bb96f5b778323a1247978c16a38a666", func := "umbra/umbralaw10.StreamBelow", spec := "streamBelow", apart := false }
def StreamBelowSaid : Prop := streamBelowRow.holds Try.pinned (OpenSpec.ofChange streamBelowSpec)

/-- ITS FALSE NEIGHBOUR: 'it returns false'. Refute it at one input. -/
def streamBelowWrong : ChangeSpec := { name := "streamBelow", fn := fun _ => fun
  | [d1, d2, d3] => { results := [.lit (.bool false)], args := [d1, d2, d3] }
  | _ => none }
def StreamBelowWrongFalsely : Prop := streamBelowRow.holds Try.pinned (OpenSpec.ofChange streamBelowWrong)

/-- 'umbralaw10.StreamKeys': WHATEVER THE INPUT: true; the input reads as it did. -/
def streamKeysSpec : ChangeSpec := { name := "streamKeys", fn := fun _ => fun
  | [d1, d2, d3] => { results := [.lit (.bool true)], args := [d1, d2, d3] }
  | _ => none }
def streamKeysRow : OpenClaim := { program := "ytikopoimoaddhaa", sum := "e8e5fca7beb417512f25661a7cba45390bb96f5b778323a1247978c16a38a666", func := "umbra/umbralaw10.StreamKeys", spec := "streamKeys", apart := false }
def StreamKeysSaid : Prop := streamKeysRow.holds Try.pinned (OpenSpec.ofChange streamKeysSpec)

/-- ITS FALSE NEIGHBOUR: 'it returns false'. Refute it at one input. -/
def streamKeysWrong : ChangeSpec := { name := "streamKeys", fn := fun _ => fun
  | [d1, d2, d3] => { results := [.lit (.bool false)], args := [d1, d2, d3] }
  | _ => none }
def StreamKeysWrongFalsely : Prop := streamKeysRow.holds Try.pinned (OpenSpec.ofChange streamKeysWrong)

/-- 'umbralaw06.ChachaQuarters': WHATEVER THE INPUT: true; the input reads as it did. -/
def chachaQuartersSpec : ChangeSpec := { name := "chachaQuarters", fn := fun _ => fun
  | [d] => { results := [.lit (.bool true)], args := [d] }
  | _ => none }
def chachaQuartersRow : OpenClaim := { program := "ytikopoimoaddhaa", sum := "e8e5fca7beb417512f25661a7cba45390bb96f5b778323a1247978c16a38a666", func := "umbra/umbralaw06.ChachaQuarters", spec := "chachaQuarters", apart := false }
def ChachaQuartersSaid : Prop := chachaQuartersRow.holds Try.pinned (OpenSpec.ofChange chachaQuartersSpec)

/-- ITS FALSE NEIGHBOUR: 'it returns false'. Refute it at one input. -/
def chachaQuartersWrong : ChangeSpec := { name := "chachaQuarters", fn := fun _ => fun
  | [d] => { results := [.lit (.bool false)], args := [d] }
  | _ => none }
def ChachaQuartersWrongFalsely : Prop := chachaQuartersRow.holds Try.pinned (OpenSpec.ofChange chachaQuartersWrong)

/-- 'umbralaw06.ChachaTurns': WHATEVER THE INPUT: true; the input reads as it did. -/
def chachaTurnsSpec : ChangeSpec := { name := "chachaTurns", fn := fun _ => fun
  | [d1, d2] => { results := [.lit (.bool true)], args := [d1, d2] }
  | _ => none }
def chachaTurnsRow : OpenClaim := { program := "ytikopoimoaddhaa", sum := "e8e5fca7beb417512f25661a7cba45390bb96f5b778323a1247978c16a38a666", func := "umbra/umbralaw06.ChachaTurns", spec := "chachaTurns", apart := false }
def ChachaTurnsSaid : Prop := chachaTurnsRow.holds Try.pinned (OpenSpec.ofChange chachaTurnsSpec)

/-- ITS FALSE NEIGHBOUR: 'it returns false'. Refute it at one input. -/
def chachaTurnsWrong : ChangeSpec := { name := "chachaTurns", fn := fun _ => fun
  | [d1, d2] => { results := [.lit (.bool false)], args := [d1, d2] }
  | _ => none }
def ChachaTurnsWrongFalsely : Prop := chachaTurnsRow.holds Try.pinned (OpenSpec.ofChange chachaTurnsWrong)

/-- 'umbralaw06.ChachaBlocks': WHATEVER THE INPUT: true; the input reads as it did. -/
def chachaBlocksSpec : ChangeSpec := { name := "chachaBlocks", fn := fun _ => fun
  | [d1, d2, d3] => { results := [.lit (.bool true)], args := [d1, d2, d3] }
  | _ => none }
def chachaBlocksRow : OpenClaim := { program := "ytikopoimoaddhaa", sum := "e8e5fca7beb417512f25661a7cba45390bb96f5b778323a1247978c16a38a666", func := "umbra/umbralaw06.ChachaBlocks", spec := "chachaBlocks", apart := false }
def ChachaBlocksSaid : Prop := chachaBlocksRow.holds Try.pinned (OpenSpec.ofChange chachaBlocksSpec)

/-- ITS FALSE NEIGHBOUR: 'it returns false'. Refute it at one input. -/
def chachaBlocksWrong : ChangeSpec := { name := "chachaBlocks", fn := fun _ => fun
  | [d1, d2, d3] => { results := [.lit (.bool false)], args := [d1, d2, d3] }
  | _ => none }
def ChachaBlocksWrongFalsely : Prop := chachaBlocksRow.holds Try.pinned (OpenSpec.ofChange chachaBlocksWrong)

/-- 'umbralaw06.ChachaLater': WHATEVER THE INPUT: true; the input reads as it did. -/
def chachaLaterSpec : ChangeSpec := { name := "chachaLater", fn := fun _ => fun
  | [d1, d2, d3] => { results := [.lit (.bool true)], args := [d1, d2, d3] }
  | _ => none }
def chachaLaterRow : OpenClaim := { program := "ytikopoimoaddhaa", sum := "e8e5fca7beb417512f25661a7cba45390bb96f5b778323a1247978c16a38a666", func := "umbra/umbralaw06.ChachaLater", spec := "chachaLater", apart := false }
def ChachaLaterSaid : Prop := chachaLaterRow.holds Try.pinned (OpenSpec.ofChange chachaLaterSpec)

/-- ITS FALSE NEIGHBOUR: 'it returns false'. Refute it at one input. -/
def chachaLaterWrong : ChangeSpec := { name := "chachaLater", fn := fun _ => fun
  | [d1, d2, d3] => { results := [.lit (.bool false)], args := [d1, d2, d3] }
  | _ => none }
def ChachaLaterWrongFalsely : Prop := chachaLaterRow.holds Try.pinned (OpenSpec.ofChange chachaLaterWrong)

/-- 'umbralaw06.ChachaStreams': WHATEVER THE INPUT: true; the input reads as it did. -/
def chachaStreamsSpec : ChangeSpec := { name := "chachaStreams", fn := fun _ => fun
  | [d1, d2, d3] => { results := [.lit (.bool true)], args := [d1, d2, d3] }
  | _ => none }
def chachaStreamsRow : OpenClaim := { program := "ytikopoimoaddhaa", sum := "e8e5fca7beb417512f25661a7cba45390bb96f5b778323a1247978c16a38a666", func := "umbra/umbralaw06.ChachaStreams", spec := "chachaStreams", apart := false }
def ChachaStreamsSaid : Prop := chachaStreamsRow.holds Try.pinned (OpenSpec.ofChange chachaStreamsSpec)

/-- ITS FALSE NEIGHBOUR: 'it returns false'. Refute it at one input. -/
def chachaStreamsWrong : ChangeSpec := { name := "chachaStreams", fn := fun _ => fun
  | [d1, d2, d3] => { results := [.lit (.bool false)], args := [d1, d2, d3] }
  | _ => none }
def ChachaStreamsWrongFalsely : Prop := chachaStreamsRow.holds Try.pinned (OpenSpec.ofChange chachaStreamsWrong)

/-- 'umbralaw06.ChachaBack': WHATEVER THE INPUT: true; the input reads as it did. -/
def chachaBackSpec : ChangeSpec := { name := "chachaBack", fn := fun _ => fun
  | [d1, d2] => { results := [.lit (.bool true)], args := [d1, d2] }
  | _ => none }
def chachaBackRow : OpenClaim := { program := "ytikopoimoaddhaa", sum := "e8e5fca7beb417512f25661a7cba45390bb96f5b778323a1247978c16a38a666", func := "umbra/umbralaw06.ChachaBack", spec := "chachaBack", apart := false }
def ChachaBackSaid : Prop := chachaBackRow.holds Try.pinned (OpenSpec.ofChange chachaBackSpec)

/-- ITS FALSE NEIGHBOUR: 'it returns false'. Refute it at one input. -/
def chachaBackWrong : ChangeSpec := { name := "chachaBack", fn := fun _ => fun
  | [d1, d2] => { results := [.lit (.bool false)], args := [d1, d2] }
  | _ => none }
def ChachaBackWrongFalsely : Prop := chachaBackRow.holds Try.pinned (OpenSpec.ofChange chachaBackWrong)

/-- 'umbralaw10.StreamDraws': WHATEVER THE INPUT: true; the input reads as it did. -/
def streamDrawsSpec : ChangeSpec := { name := "streamDraws", fn := fun _ => fun
  | [d1, d2] => { results := [.lit (.bool true)], args := [d1, d2] }
  | _ => none }
def streamDrawsRow : OpenClaim := { program := "ytikopoimoaddhaa", sum := "e8e5fca7beb417512f25661a7cba45390bb96f5b778323a1247978c16a38a666", func := "umbra/umbralaw10.StreamDraws", spec := "streamDraws", apart := false }
def StreamDrawsSaid : Prop := streamDrawsRow.holds Try.pinned (OpenSpec.ofChange streamDrawsSpec)

/-- ITS FALSE NEIGHBOUR: 'it returns false'. Refute it at one input. -/
def streamDrawsWrong : ChangeSpec := { name := "streamDraws", fn := fun _ => fun
  | [d1, d2] => { results := [.lit (.bool false)], args := [d1, d2] }
  | _ => none }
def StreamDrawsWrongFalsely : Prop := streamDrawsRow.holds Try.pinned (OpenSpec.ofChange streamDrawsWrong)

/-- 'umbralaw10.StreamBlock': WHATEVER THE INPUT: true; the input reads as it did. -/
def streamBlockSpec : ChangeSpec := { name := "streamBlock", fn := fun _ => fun
  | [d1, d2, d3] => { results := [.lit (.bool true)], args := [d1, d2, d3] }
  | _ => none }
def streamBlockRow : OpenClaim := { program := "ytikopoimoaddhaa", sum := "e8e5fca7beb417512f25661a7cba45390bb96f5b778323a1247978c16a38a666", func := "umbra/umbralaw10.StreamBlock", spec := "streamBlock", apart := false }
def StreamBlockSaid : Prop := streamBlockRow.holds Try.pinned (OpenSpec.ofChange streamBlockSpec)

/-- ITS FALSE NEIGHBOUR: 'it returns false'. Refute it at one input. -/
def streamBlockWrong : ChangeSpec := { name := "streamBlock", fn := fun _ => fun
  | [d1, d2, d3] => { results := [.lit (.bool false)], args := [d1, d2, d3] }
  | _ => none }
def StreamBlockWrongFalsely : Prop := streamBlockRow.holds Try.pinned (OpenSpec.ofChange streamBlockWrong)

/-- 'umbralaw10.StreamSources': WHATEVER THE INPUT: true; the input reads as it did. -/
def streamSourcesSpec : ChangeSpec := { name := "streamSources", fn := fun _ => fun
  | [d1, d2, d3] => { results := [.lit (.bool true)], args := [d1, d2, d3] }
  | _ => none }
def streamSourcesRow : OpenClaim := { program := "ytikopoimoaddhaa", sum := "e8e5fca7beb417512f25661a7cba45390bb96f5b778323a1247978c16a38a666", func := "umbra/umbralaw10.StreamSources", spec := "streamSources", apart := false }
def StreamSourcesSaid : Prop := streamSourcesRow.holds Try.pinned (OpenSpec.ofChange streamSourcesSpec)

/-- ITS FALSE NEIGHBOUR: 'it returns false'. Refute it at one input. -/
def streamSourcesWrong : ChangeSpec := { name := "streamSources", fn := fun _ => fun
  | [d1, d2, d3] => { results := [.lit (.bool false)], args := [d1, d2, d3] }
  | _ => none }
def StreamSourcesWrongFalsely : Prop := streamSourcesRow.holds Try.pinned (OpenSpec.ofChange streamSourcesWrong)

/-- 'umbralaw07.PolyBlocks': WHATEVER THE INPUT: true; the input reads as it did. -/
def polyBlocksSpec : ChangeSpec := { name := "polyBlocks", fn := fun _ => fun
  | [d1, d2] => { results := [.lit (.bool true)], args := [d1, d2] }
  | _ => none }
def polyBlocksRow : OpenClaim := { program := "ytikopoimoaddhaa", sum := "e8e5fca7beb417512f25661a7cba45390bb96f5b778323a1247978c16a38a666", func := "umbra/umbralaw07.PolyBlocks", spec := "polyBlocks", inPlace := ["math/bits.Add64"], apart := false }
def PolyBlocksSaid : Prop := polyBlocksRow.holds Try.pinned (OpenSpec.ofChange polyBlocksSpec)

/-- ITS FALSE NEIGHBOUR: 'it returns false'. Refute it at one input. -/
def polyBlocksWrong : ChangeSpec := { name := "polyBlocks", fn := fun _ => fun
  | [d1, d2] => { results := [.lit (.bool false)], args := [d1, d2] }
  | _ => none }
def PolyBlocksWrongFalsely : Prop := polyBlocksRow.holds Try.pinned (OpenSpec.ofChange polyBlocksWrong)

/-- 'umbralaw07.PolyTags': WHATEVER THE INPUT: true; the input reads as it did. -/
def polyTagsSpec : ChangeSpec := { name := "polyTags", fn := fun _ => fun
  | [d1, d2] => { results := [.lit (.bool true)], args := [d1, d2] }
  | _ => none }
def polyTagsRow : OpenClaim := { program := "ytikopoimoaddhaa", sum := "e8e5fca7beb417512f25661a7cba45390bb96f5b778323a1247978c16a38a666", func := "umbra/umbralaw07.PolyTags", spec := "polyTags", inPlace := ["math/bits.Add64"], apart := false }
def PolyTagsSaid : Prop := polyTagsRow.holds Try.pinned (OpenSpec.ofChange polyTagsSpec)

/-- ITS FALSE NEIGHBOUR: 'it returns false'. Refute it at one input. -/
def polyTagsWrong : ChangeSpec := { name := "polyTags", fn := fun _ => fun
  | [d1, d2] => { results := [.lit (.bool false)], args := [d1, d2] }
  | _ => none }
def PolyTagsWrongFalsely : Prop := polyTagsRow.holds Try.pinned (OpenSpec.ofChange polyTagsWrong)

/-- 'umbralaw07.PolyAdds': WHATEVER THE INPUT: true; the input reads as it did. -/
def polyAddsSpec : ChangeSpec := { name := "polyAdds", fn := fun _ => fun
  | [d1, d2] => { results := [.lit (.bool true)], args := [d1, d2] }
  | _ => none }
def polyAddsRow : OpenClaim := { program := "ytikopoimoaddhaa", sum := "e8e5fca7beb417512f25661a7cba45390bb96f5b778323a1247978c16a38a666", func := "umbra/umbralaw07.PolyAdds", spec := "polyAdds", inPlace := ["math/bits.Add64"], apart := false }
def PolyAddsSaid : Prop := polyAddsRow.holds Try.pinned (OpenSpec.ofChange polyAddsSpec)

/-- ITS FALSE NEIGHBOUR: 'it returns false'. Refute it at one input. -/
def polyAddsWrong : ChangeSpec := { name := "polyAdds", fn := fun _ => fun
  | [d1, d2] => { results := [.lit (.bool false)], args := [d1, d2] }
  | _ => none }
def PolyAddsWrongFalsely : Prop := polyAddsRow.holds Try.pinned (OpenSpec.ofChange polyAddsWrong)

/-- 'umbralaw07.PolyShifts': WHATEVER THE INPUT: true; the input reads as it did. -/
def polyShiftsSpec : ChangeSpec := { name := "polyShifts", fn := fun _ => fun
  | [d1, d2, d3] => { results := [.lit (.bool true)], args := [d1, d2, d3] }
  | _ => none }
def polyShiftsRow : OpenClaim := { program := "ytikopoimoaddhaa", sum := "e8e5fca7beb417512f25661a7cba45390bb96f5b778323a1247978c16a38a666", func := "umbra/umbralaw07.PolyShifts", spec := "polyShifts", inPlace := ["math/bits.Add64"], apart := false }
def PolyShiftsSaid : Prop := polyShiftsRow.holds Try.pinned (OpenSpec.ofChange polyShiftsSpec)

/-- ITS FALSE NEIGHBOUR: 'it returns false'. Refute it at one input. -/
def polyShiftsWrong : ChangeSpec := { name := "polyShifts", fn := fun _ => fun
  | [d1, d2, d3] => { results := [.lit (.bool false)], args := [d1, d2, d3] }
  | _ => none }
def PolyShiftsWrongFalsely : Prop := polyShiftsRow.holds Try.pinned (OpenSpec.ofChange polyShiftsWrong)

/-- 'umbralaw07.PolyFew': WHATEVER THE INPUT: true; the input reads as it did. -/
def polyFewSpec : ChangeSpec := { name := "polyFew", fn := fun _ => fun
  | [d1, d2, d3] => { results := [.lit (.bool true)], args := [d1, d2, d3] }
  | _ => none }
def polyFewRow : OpenClaim := { program := "ytikopoimoaddhaa", sum := "e8e5fca7beb417512f25661a7cba45390bb96f5b778323a1247978c16a38a666", func := "umbra/umbralaw07.PolyFew", spec := "polyFew", inPlace := ["math/bits.Add64"], apart := false }
def PolyFewSaid : Prop := polyFewRow.holds Try.pinned (OpenSpec.ofChange polyFewSpec)

/-- ITS FALSE NEIGHBOUR: 'it returns false'. Refute it at one input. -/
def polyFewWrong : ChangeSpec := { name := "polyFew", fn := fun _ => fun
  | [d1, d2, d3] => { results := [.lit (.bool false)], args := [d1, d2, d3] }
  | _ => none }
def PolyFewWrongFalsely : Prop := polyFewRow.holds Try.pinned (OpenSpec.ofChange polyFewWrong)

/-- 'umbralaw07.PolyCuts': WHATEVER THE INPUT: true; the input reads as it did. -/
def polyCutsSpec : ChangeSpec := { name := "polyCuts", fn := fun _ => fun
  | [d] => { results := [.lit (.bool true)], args := [d] }
  | _ => none }
def polyCutsRow : OpenClaim := { program := "ytikopoimoaddhaa", sum := "e8e5fca7beb417512f25661a7cba45390bb96f5b778323a1247978c16a38a666", func := "umbra/umbralaw07.PolyCuts", spec := "polyCuts", inPlace := ["math/bits.Add64"], apart := false }
def PolyCutsSaid : Prop := polyCutsRow.holds Try.pinned (OpenSpec.ofChange polyCutsSpec)

/-- ITS FALSE NEIGHBOUR: 'it returns false'. Refute it at one input. -/
def polyCutsWrong : ChangeSpec := { name := "polyCuts", fn := fun _ => fun
  | [d] => { results := [.lit (.bool false)], args := [d] }
  | _ => none }
def PolyCutsWrongFalsely : Prop := polyCutsRow.holds Try.pinned (OpenSpec.ofChange polyCutsWrong)

/-- 'umbralaw07.PolySame': WHATEVER THE INPUT: true; the input reads as it did. -/
def polySameSpec : ChangeSpec := { name := "polySame", fn := fun _ => fun
  | [d1, d2] => { results := [.lit (.bool true)], args := [d1, d2] }
  | _ => none }
def polySameRow : OpenClaim := { program := "ytikopoimoaddhaa", sum := "e8e5fca7beb417512f25661a7cba45390bb96f5b778323a1247978c16a38a666", func := "umbra/umbralaw07.PolySame", spec := "polySame", inPlace := ["math/bits.Add64"], apart := false }
def PolySameSaid : Prop := polySameRow.holds Try.pinned (OpenSpec.ofChange polySameSpec)

/-- ITS FALSE NEIGHBOUR: 'it returns false'. Refute it at one input. -/
def polySameWrong : ChangeSpec := { name := "polySame", fn := fun _ => fun
  | [d1, d2] => { results := [.lit (.bool false)], args := [d1, d2] }
  | _ => none }
def PolySameWrongFalsely : Prop := polySameRow.holds Try.pinned (OpenSpec.ofChange polySameWrong)

/-- 'umbralaw08.AeadMacs': WHATEVER THE INPUT: true; the input reads as it did. -/
def aeadMacsSpec : ChangeSpec := { name := "aeadMacs", fn := fun _ => fun
  | [d1, d2, d3] => { results := [.lit (.bool true)], args := [d1, d2, d3] }
  | _ => none }
def aeadMacsRow : OpenClaim := { program := "ytikopoimoaddhaa", sum := "e8e5fca7beb417512f25661a7cba45390bb96f5b778323a1247978c16a38a666", func := "umbra/umbralaw08.AeadMacs", spec := "aeadMacs", inPlace := ["math/bits.Add64"], unfollowed := true, recurses := true, apart := false }
def AeadMacsSaid : Prop := aeadMacsRow.holds Try.pinned (OpenSpec.ofChange aeadMacsSpec)

/-- ITS FALSE NEIGHBOUR: 'it returns false'. Refute it at one input. -/
def aeadMacsWrong : ChangeSpec := { name := "aeadMacs", fn := fun _ => fun
  | [d1, d2, d3] => { results := [.lit (.bool false)], args := [d1, d2, d3] }
  | _ => none }
def AeadMacsWrongFalsely : Prop := aeadMacsRow.holds Try.pinned (OpenSpec.ofChange aeadMacsWrong)

/-- 'umbralaw08.AeadSeals': WHATEVER THE INPUT: true; the input reads as it did. -/
def aeadSealsSpec : ChangeSpec := { name := "aeadSeals", fn := fun _ => fun
  | [d1, d2, d3] => { results := [.lit (.bool true)], args := [d1, d2, d3] }
  | _ => none }
def aeadSealsRow : OpenClaim := { program := "ytikopoimoaddhaa", sum := "e8e5fca7beb417512f25661a7cba45390bb96f5b778323a1247978c16a38a666", func := "umbra/umbralaw08.AeadSeals", spec := "aeadSeals", inPlace := ["math/bits.Add64"], unfollowed := true, recurses := true, apart := false }
def AeadSealsSaid : Prop := aeadSealsRow.holds Try.pinned (OpenSpec.ofChange aeadSealsSpec)

/-- ITS FALSE NEIGHBOUR: 'it returns false'. Refute it at one input. -/
def aeadSealsWrong : ChangeSpec := { name := "aeadSeals", fn := fun _ => fun
  | [d1, d2, d3] => { results := [.lit (.bool false)], args := [d1, d2, d3] }
  | _ => none }
def AeadSealsWrongFalsely : Prop := aeadSealsRow.holds Try.pinned (OpenSpec.ofChange aeadSealsWrong)

/-- 'umbralaw08.AeadOpens': WHATEVER THE INPUT: true; the input reads as it did. -/
def aeadOpensSpec : ChangeSpec := { name := "aeadOpens", fn := fun _ => fun
  | [d1, d2, d3] => { results := [.lit (.bool true)], args := [d1, d2, d3] }
  | _ => none }
def aeadOpensRow : OpenClaim := { program := "ytikopoimoaddhaa", sum := "e8e5fca7beb417512f25661a7cba45390bb96f5b778323a1247978c16a38a666", func := "umbra/umbralaw08.AeadOpens", spec := "aeadOpens", inPlace := ["math/bits.Add64"], unfollowed := true, recurses := true, apart := false }
def AeadOpensSaid : Prop := aeadOpensRow.holds Try.pinned (OpenSpec.ofChange aeadOpensSpec)

/-- ITS FALSE NEIGHBOUR: 'it returns false'. Refute it at one input. -/
def aeadOpensWrong : ChangeSpec := { name := "aeadOpens", fn := fun _ => fun
  | [d1, d2, d3] => { results := [.lit (.bool false)], args := [d1, d2, d3] }
  | _ => none }
def AeadOpensWrongFalsely : Prop := aeadOpensRow.holds Try.pinned (OpenSpec.ofChange aeadOpensWrong)

/-- 'umbralaw08.AeadBack': WHATEVER THE INPUT: true; the input reads as it did. -/
def aeadBackSpec : ChangeSpec := { name := "aeadBack", fn := fun _ => fun
  | [d1, d2, d3] => { results := [.lit (.bool true)], args := [d1, d2, d3] }
  | _ => none }
def aeadBackRow : OpenClaim := { program := "ytikopoimoaddhaa", sum := "e8e5fca7beb417512f25661a7cba45390bb96f5b778323a1247978c16a38a666", func := "umbra/umbralaw08.AeadBack", spec := "aeadBack", inPlace := ["math/bits.Add64"], unfollowed := true, recurses := true, apart := false }
def AeadBackSaid : Prop := aeadBackRow.holds Try.pinned (OpenSpec.ofChange aeadBackSpec)

/-- ITS FALSE NEIGHBOUR: 'it returns false'. Refute it at one input. -/
def aeadBackWrong : ChangeSpec := { name := "aeadBack", fn := fun _ => fun
  | [d1, d2, d3] => { results := [.lit (.bool false)], args := [d1, d2, d3] }
  | _ => none }
def AeadBackWrongFalsely : Prop := aeadBackRow.holds Try.pinned (OpenSpec.ofChange aeadBackWrong)

/-- 'umbralaw08.AeadJust': WHATEVER THE INPUT: true; the input reads as it did. -/
def aeadJustSpec : ChangeSpec := { name := "aeadJust", fn := fun _ => fun
  | [d1, d2, d3] => { results := [.lit (.bool true)], args := [d1, d2, d3] }
  | _ => none }
def aeadJustRow : OpenClaim := { program := "ytikopoimoaddhaa", sum := "e8e5fca7beb417512f25661a7cba45390bb96f5b778323a1247978c16a38a666", func := "umbra/umbralaw08.AeadJust", spec := "aeadJust", inPlace := ["math/bits.Add64"], unfollowed := true, recurses := true, apart := false }
def AeadJustSaid : Prop := aeadJustRow.holds Try.pinned (OpenSpec.ofChange aeadJustSpec)

/-- ITS FALSE NEIGHBOUR: 'it returns false'. Refute it at one input. -/
def aeadJustWrong : ChangeSpec := { name := "aeadJust", fn := fun _ => fun
  | [d1, d2, d3] => { results := [.lit (.bool false)], args := [d1, d2, d3] }
  | _ => none }
def AeadJustWrongFalsely : Prop := aeadJustRow.holds Try.pinned (OpenSpec.ofChange aeadJustWrong)

/-- 'umbralaw08.AeadParts': WHATEVER THE INPUT: true; the input reads as it did. -/
def aeadPartsSpec : ChangeSpec := { name := "aeadParts", fn := fun _ => fun
  | [d1, d2, d3] => { results := [.lit (.bool true)], args := [d1, d2, d3] }
  | _ => none }
def aeadPartsRow : OpenClaim := { program := "ytikopoimoaddhaa", sum := "e8e5fca7beb417512f25661a7cba45390bb96f5b778323a1247978c16a38a666", func := "umbra/umbralaw08.AeadParts", spec := "aeadParts", inPlace := ["math/bits.Add64"], unfollowed := true, recurses := true, apart := false }
def AeadPartsSaid : Prop := aeadPartsRow.holds Try.pinned (OpenSpec.ofChange aeadPartsSpec)

/-- ITS FALSE NEIGHBOUR: 'it returns false'. Refute it at one input. -/
def aeadPartsWrong : ChangeSpec := { name := "aeadParts", fn := fun _ => fun
  | [d1, d2, d3] => { results := [.lit (.bool false)], args := [d1, d2, d3] }
  | _ => none }
def AeadPartsWrongFalsely : Prop := aeadPartsRow.holds Try.pinned (OpenSpec.ofChange aeadPartsWrong)

/- THE SECOND FORM. 'bulk': how many values and letters a reading holds, each counted each time it is reached (what is shared counts as often as it is met; a slice's spare places count too). A statement '..UptoSaid' is the law's where the arguments, and the package variables that the reading takes, are together of bulk at most 1048576: NARROWER than '..Said'. Prove '..Said' where nothing that the law and all that it calls make is longer than what came in: it says more and counts as full. Else prove '..UptoSaid'. A law counts once. -/
mutual
def uptoBulk {H : Type} : DataW H → Nat
  | .lit (.string bytes) => bytes.length + 1
  | .lit _ => 1
  | .nil => 1
  | .ptr d => uptoBulk d + 1
  | .slice elems spare => uptoBulkAll elems + uptoBulkAll spare + 1
  | .agg parts => uptoBulkAll parts + 1
  | .iface _ d => uptoBulk d + 1
  | .map entries => uptoBulkEntries entries + 1
  | .held _ => 1
def uptoBulkAll {H : Type} : List (DataW H) → Nat
  | [] => 0
  | d :: r => uptoBulk d + uptoBulkAll r
def uptoBulkEntries {H : Type} : List (Lit × DataW H) → Nat
  | [] => 0
  | x :: r => uptoBulkEntry x + uptoBulkEntries r
def uptoBulkEntry {H : Type} : Lit × DataW H → Nat
  | (.string bytes, d) => bytes.length + uptoBulk d + 1
  | (_, d) => uptoBulk d + 1
 end
def uptoSmall : (H : Type) → List (DataW H) → Bool := fun _ ds => decide (uptoBulkAll ds ≤ 1048576)
def OpenSpec.upto (s : _root_.Go.ChangeSpec) : _root_.Go.OpenSpec := { _root_.Go.OpenSpec.ofChange s with cond := some uptoSmall }

/-- 'umbralaw10.StreamBelow', WHERE WHAT IT READS IS OF BULK AT MOST 1048576: true; the input reads as it did. -/
def streamBelowUptoRow : OpenClaim := { program := "ytikopoimoaddhaa", sum := "e8e5fca7beb417512f25661a7cba45390bb96f5b778323a1247978c16a38a666", func := "umbra/umbralaw10.StreamBelow", spec := "streamBelow", apart := false, narrowed := true }
def StreamBelowUptoSaid : Prop := streamBelowUptoRow.holds Try.pinned (OpenSpec.upto streamBelowSpec)

/-- 'umbralaw10.StreamKeys', WHERE WHAT IT READS IS OF BULK AT MOST 1048576: true; the input reads as it did. -/
def streamKeysUptoRow : OpenClaim := { program := "ytikopoimoaddhaa", sum := "e8e5fca7beb417512f25661a7cba45390bb96f5b778323a1247978c16a38a666", func := "umbra/umbralaw10.StreamKeys", spec := "streamKeys", apart := false, narrowed := true }
def StreamKeysUptoSaid : Prop := streamKeysUptoRow.holds Try.pinned (OpenSpec.upto streamKeysSpec)

/-- 'umbralaw06.ChachaQuarters', WHERE WHAT IT READS IS OF BULK AT MOST 1048576: true; the input reads as it did. -/
def chachaQuartersUptoRow : OpenClaim := { program := "ytikopoimoaddhaa", sum := "e8e5fca7beb417512f25661a7cba45390bb96f5b778323a1247978c16a38a666", func := "umbra/umbralaw06.ChachaQuarters", spec := "chachaQuarters", apart := false, narrowed := true }
def ChachaQuartersUptoSaid : Prop := chachaQuartersUptoRow.holds Try.pinned (OpenSpec.upto chachaQuartersSpec)

/-- 'umbralaw06.ChachaTurns', WHERE WHAT IT READS IS OF BULK AT MOST 1048576: true; the input reads as it did. -/
def chachaTurnsUptoRow : OpenClaim := { program := "ytikopoimoaddhaa", sum := "e8e5fca7beb417512f25661a7cba45390bb96f5b778323a1247978c16a38a666", func := "umbra/umbralaw06.ChachaTurns", spec := "chachaTurns", apart := false, narrowed := true }
def ChachaTurnsUptoSaid : Prop := chachaTurnsUptoRow.holds Try.pinned (OpenSpec.upto chachaTurnsSpec)

/-- 'umbralaw06.ChachaBlocks', WHERE WHAT IT READS IS OF BULK AT MOST 1048576: true; the input reads as it did. -/
def chachaBlocksUptoRow : OpenClaim := { program := "ytikopoimoaddhaa", sum := "e8e5fca7beb417512f25661a7cba45390bb96f5b778323a1247978c16a38a666", func := "umbra/umbralaw06.ChachaBlocks", spec := "chachaBlocks", apart := false, narrowed := true }
def ChachaBlocksUptoSaid : Prop := chachaBlocksUptoRow.holds Try.pinned (OpenSpec.upto chachaBlocksSpec)

/-- 'umbralaw06.ChachaLater', WHERE WHAT IT READS IS OF BULK AT MOST 1048576: true; the input reads as it did. -/
def chachaLaterUptoRow : OpenClaim := { program := "ytikopoimoaddhaa", sum := "e8e5fca7beb417512f25661a7cba45390bb96f5b778323a1247978c16a38a666", func := "umbra/umbralaw06.ChachaLater", spec := "chachaLater", apart := false, narrowed := true }
def ChachaLaterUptoSaid : Prop := chachaLaterUptoRow.holds Try.pinned (OpenSpec.upto chachaLaterSpec)

/-- 'umbralaw06.ChachaStreams', WHERE WHAT IT READS IS OF BULK AT MOST 1048576: true; the input reads as it did. -/
def chachaStreamsUptoRow : OpenClaim := { program := "ytikopoimoaddhaa", sum := "e8e5fca7beb417512f25661a7cba45390bb96f5b778323a1247978c16a38a666", func := "umbra/umbralaw06.ChachaStreams", spec := "chachaStreams", apart := false, narrowed := true }
def ChachaStreamsUptoSaid : Prop := chachaStreamsUptoRow.holds Try.pinned (OpenSpec.upto chachaStreamsSpec)

/-- 'umbralaw06.ChachaBack', WHERE WHAT IT READS IS OF BULK AT MOST 1048576: true; the input reads as it did. -/
def chachaBackUptoRow : OpenClaim := { program := "ytikopoimoaddhaa", sum := "e8e5fca7beb417512f25661a7cba45390bb96f5b778323a1247978c16a38a666", func := "umbra/umbralaw06.ChachaBack", spec := "chachaBack", apart := false, narrowed := true }
def ChachaBackUptoSaid : Prop := chachaBackUptoRow.holds Try.pinned (OpenSpec.upto chachaBackSpec)

/-- 'umbralaw10.StreamDraws', WHERE WHAT IT READS IS OF BULK AT MOST 1048576: true; the input reads as it did. -/
def streamDrawsUptoRow : OpenClaim := { program := "ytikopoimoaddhaa", sum := "e8e5fca7beb417512f25661a7cba45390bb96f5b778323a1247978c16a38a666", func := "umbra/umbralaw10.StreamDraws", spec := "streamDraws", apart := false, narrowed := true }
def StreamDrawsUptoSaid : Prop := streamDrawsUptoRow.holds Try.pinned (OpenSpec.upto streamDrawsSpec)

/-- 'umbralaw10.StreamBlock', WHERE WHAT IT READS IS OF BULK AT MOST 1048576: true; the input reads as it did. -/
def streamBlockUptoRow : OpenClaim := { program := "ytikopoimoaddhaa", sum := "e8e5fca7beb417512f25661a7cba45390bb96f5b778323a1247978c16a38a666", func := "umbra/umbralaw10.StreamBlock", spec := "streamBlock", apart := false, narrowed := true }
def StreamBlockUptoSaid : Prop := streamBlockUptoRow.holds Try.pinned (OpenSpec.upto streamBlockSpec)

/-- 'umbralaw10.StreamSources', WHERE WHAT IT READS IS OF BULK AT MOST 1048576: true; the input reads as it did. -/
def streamSourcesUptoRow : OpenClaim := { program := "ytikopoimoaddhaa", sum := "e8e5fca7beb417512f25661a7cba45390bb96f5b778323a1247978c16a38a666", func := "umbra/umbralaw10.StreamSources", spec := "streamSources", apart := false, narrowed := true }
def StreamSourcesUptoSaid : Prop := streamSourcesUptoRow.holds Try.pinned (OpenSpec.upto streamSourcesSpec)

/-- 'umbralaw07.PolyBlocks', WHERE WHAT IT READS IS OF BULK AT MOST 1048576: true; the input reads as it did. -/
def polyBlocksUptoRow : OpenClaim := { program := "ytikopoimoaddhaa", sum := "e8e5fca7beb417512f25661a7cba45390bb96f5b778323a1247978c16a38a666", func := "umbra/umbralaw07.PolyBlocks", spec := "polyBlocks", inPlace := ["math/bits.Add64"], apart := false, narrowed := true }
def PolyBlocksUptoSaid : Prop := polyBlocksUptoRow.holds Try.pinned (OpenSpec.upto polyBlocksSpec)

/-- 'umbralaw07.PolyTags', WHERE WHAT IT READS IS OF BULK AT MOST 1048576: true; the input reads as it did. -/
def polyTagsUptoRow : OpenClaim := { program := "ytikopoimoaddhaa", sum := "e8e5fca7beb417512f25661a7cba45390bb96f5b778323a1247978c16a38a666", func := "umbra/umbralaw07.PolyTags", spec := "polyTags", inPlace := ["math/bits.Add64"], apart := false, narrowed := true }
def PolyTagsUptoSaid : Prop := polyTagsUptoRow.holds Try.pinned (OpenSpec.upto polyTagsSpec)

/-- 'umbralaw07.PolyAdds', WHERE WHAT IT READS IS OF BULK AT MOST 1048576: true; the input reads as it did. -/
def polyAddsUptoRow : OpenClaim := { program := "ytikopoimoaddhaa", sum := "e8e5fca7beb417512f25661a7cba45390bb96f5b778323a1247978c16a38a666", func := "umbra/umbralaw07.PolyAdds", spec := "polyAdds", inPlace := ["math/bits.Add64"], apart := false, narrowed := true }
def PolyAddsUptoSaid : Prop := polyAddsUptoRow.holds Try.pinned (OpenSpec.upto polyAddsSpec)

/-- 'umbralaw07.PolyShifts', WHERE WHAT IT READS IS OF BULK AT MOST 1048576: true; the input reads as it did. -/
def polyShiftsUptoRow : OpenClaim := { program := "ytikopoimoaddhaa", sum := "e8e5fca7beb417512f25661a7cba45390bb96f5b778323a1247978c16a38a666", func := "umbra/umbralaw07.PolyShifts", spec := "polyShifts", inPlace := ["math/bits.Add64"], apart := false, narrowed := true }
def PolyShiftsUptoSaid : Prop := polyShiftsUptoRow.holds Try.pinned (OpenSpec.upto polyShiftsSpec)

/-- 'umbralaw07.PolyFew', WHERE WHAT IT READS IS OF BULK AT MOST 1048576: true; the input reads as it did. -/
def polyFewUptoRow : OpenClaim := { program := "ytikopoimoaddhaa", sum := "e8e5fca7beb417512f25661a7cba45390bb96f5b778323a1247978c16a38a666", func := "umbra/umbralaw07.PolyFew", spec := "polyFew", inPlace := ["math/bits.Add64"], apart := false, narrowed := true }
def PolyFewUptoSaid : Prop := polyFewUptoRow.holds Try.pinned (OpenSpec.upto polyFewSpec)

/-- 'umbralaw07.PolyCuts', WHERE WHAT IT READS IS OF BULK AT MOST 1048576: true; the input reads as it did. -/
def polyCutsUptoRow : OpenClaim := { program := "ytikopoimoaddhaa", sum := "e8e5fca7beb417512f25661a7cba45390bb96f5b778323a1247978c16a38a666", func := "umbra/umbralaw07.PolyCuts", spec := "polyCuts", inPlace := ["math/bits.Add64"], apart := false, narrowed := true }
def PolyCutsUptoSaid : Prop := polyCutsUptoRow.holds Try.pinned (OpenSpec.upto polyCutsSpec)

/-- 'umbralaw07.PolySame', WHERE WHAT IT READS IS OF BULK AT MOST 1048576: true; the input reads as it did. -/
def polySameUptoRow : OpenClaim := { program := "ytikopoimoaddhaa", sum := "e8e5fca7beb417512f25661a7cba45390bb96f5b778323a1247978c16a38a666", func := "umbra/umbralaw07.PolySame", spec := "polySame", inPlace := ["math/bits.Add64"], apart := false, narrowed := true }
def PolySameUptoSaid : Prop := polySameUptoRow.holds Try.pinned (OpenSpec.upto polySameSpec)

/-- 'umbralaw08.AeadMacs', WHERE WHAT IT READS IS OF BULK AT MOST 1048576: true; the input reads as it did. -/
def aeadMacsUptoRow : OpenClaim := { program := "ytikopoimoaddhaa", sum := "e8e5fca7beb417512f25661a7cba45390bb96f5b778323a1247978c16a38a666", func := "umbra/umbralaw08.AeadMacs", spec := "aeadMacs", inPlace := ["math/bits.Add64"], unfollowed := true, recurses := true, apart := false, narrowed := true }
def AeadMacsUptoSaid : Prop := aeadMacsUptoRow.holds Try.pinned (OpenSpec.upto aeadMacsSpec)

/-- 'umbralaw08.AeadSeals', WHERE WHAT IT READS IS OF BULK AT MOST 1048576: true; the input reads as it did. -/
def aeadSealsUptoRow : OpenClaim := { program := "ytikopoimoaddhaa", sum := "e8e5fca7beb417512f25661a7cba45390bb96f5b778323a1247978c16a38a666", func := "umbra/umbralaw08.AeadSeals", spec := "aeadSeals", inPlace := ["math/bits.Add64"], unfollowed := true, recurses := true, apart := false, narrowed := true }
def AeadSealsUptoSaid : Prop := aeadSealsUptoRow.holds Try.pinned (OpenSpec.upto aeadSealsSpec)

/-- 'umbralaw08.AeadOpens', WHERE WHAT IT READS IS OF BULK AT MOST 1048576: true; the input reads as it did. -/
def aeadOpensUptoRow : OpenClaim := { program := "ytikopoimoaddhaa", sum := "e8e5fca7beb417512f25661a7cba45390bb96f5b778323a1247978c16a38a666", func := "umbra/umbralaw08.AeadOpens", spec := "aeadOpens", inPlace := ["math/bits.Add64"], unfollowed := true, recurses := true, apart := false, narrowed := true }
def AeadOpensUptoSaid : Prop := aeadOpensUptoRow.holds Try.pinned (OpenSpec.upto aeadOpensSpec)

/-- 'umbralaw08.AeadBack', WHERE WHAT IT READS IS OF BULK AT MOST 1048576: true; the input reads as it did. -/
def aeadBackUptoRow : OpenClaim := { program := "ytikopoimoaddhaa", sum := "e8e5fca7beb417512f25661a7cba45390bb96f5b778323a1247978c16a38a666", func := "umbra/umbralaw08.AeadBack", spec := "aeadBack", inPlace := ["math/bits.Add64"], unfollowed := true, recurses := true, apart := false, narrowed := true }
def AeadBackUptoSaid : Prop := aeadBackUptoRow.holds Try.pinned (OpenSpec.upto aeadBackSpec)

/-- 'umbralaw08.AeadJust', WHERE WHAT IT READS IS OF BULK AT MOST 1048576: true; the input reads as it did. -/
def aeadJustUptoRow : OpenClaim := { program := "ytikopoimoaddhaa", sum := "e8e5fca7beb417512f25661a7cba45390bb96f5b778323a1247978c16a38a666", func := "umbra/umbralaw08.AeadJust", spec := "aeadJust", inPlace := ["math/bits.Add64"], unfollowed := true, recurses := true, apart := false, narrowed := true }
def AeadJustUptoSaid : Prop := aeadJustUptoRow.holds Try.pinned (OpenSpec.upto aeadJustSpec)

/-- 'umbralaw08.AeadParts', WHERE WHAT IT READS IS OF BULK AT MOST 1048576: true; the input reads as it did. -/
def aeadPartsUptoRow : OpenClaim := { program := "ytikopoimoaddhaa", sum := "e8e5fca7beb417512f25661a7cba45390bb96f5b778323a1247978c16a38a666", func := "umbra/umbralaw08.AeadParts", spec := "aeadParts", inPlace := ["math/bits.Add64"], unfollowed := true, recurses := true, apart := false, narrowed := true }
def AeadPartsUptoSaid : Prop := aeadPartsUptoRow.holds Try.pinned (OpenSpec.upto aeadPartsSpec)

end Rows
end Go.Proofs.Ytikopoimoaddhaa
