/-
  No cell of these rows narrows 'for every input' (looked for: loops, veiled, ifaces, maps, wideKeys, modest, calm, conditions, laid).
  DERIVED. THE GIVEN ROWS OF THIS SEAT. 23 by the template 'for every input the law returns true; each argument reads behind the call as it read before'; 0 by the template 'total and deterministic' (their statements: YtkdflpdemoaifaaTotals.lean).
  GIVEN WITH THE SEED: the statements are not yours to turn. If you find one false, say at which input.
  Laid BY PROGRAM, IN A SANDBOX (cutbox-rows.mjs): the forced cells as the released guide's own fill.sh prints them over the translation dd14850b5a08e6a7… (all of the seat's roots in one cut). By AI agents, Wed Nov 11 2026. No macro, syntax, notation, axiom, sorry.
-/
import Derived.Test.YtkdflpdemoaifaaChecked
import GoSem.Claim
import GoSem.ClaimJoined
import GoSem.ClaimMapViews
import Derived.JoinedTies
import Derived.KernelRfl
namespace Go.Proofs.Ytkdflpdemoaifaa
/- THE CELL 'sum', in the pinned program and in every row, IS THE sha256 OF THE DUMP (.gsa) THAT YtkdflpdemoaifaaProg.lean LOADS. Nothing in Lean hashes anything: it is a label: what it is worth is what the hold of that sum in a sandbox is worth. -/
noncomputable def Try.pinned : Pinned := { name := "ytkdflpdemoaifaa", sum := "dd14850b5a08e6a7aaffec2028684266114dc2e3396bb9df252f6b87891b496d", checked := Try.checked }
namespace Rows
def none {H : Type} : Left H := { results := [], args := [] }

/-- 'umbralaw09.ShaCompresses': WHATEVER THE INPUT: true; the input reads as it did. -/
def shaCompressesSpec : ChangeSpec := { name := "shaCompresses", fn := fun _ => fun
  | [d1, d2] => { results := [.lit (.bool true)], args := [d1, d2] }
  | _ => none }
def shaCompressesRow : OpenClaim := { program := "ytkdflpdemoaifaa", sum := "dd14850b5a08e6a7aaffec2028684266114dc2e3396bb9df252f6b87891b496d", func := "umbra/umbralaw09.ShaCompresses", spec := "shaCompresses", apart := false }
def ShaCompressesSaid : Prop := shaCompressesRow.holds Try.pinned (OpenSpec.ofChange shaCompressesSpec)

/-- ITS FALSE NEIGHBOUR: 'it returns false'. Refute it at one input. -/
def shaCompressesWrong : ChangeSpec := { name := "shaCompresses", fn := fun _ => fun
  | [d1, d2] => { results := [.lit (.bool false)], args := [d1, d2] }
  | _ => none }
def ShaCompressesWrongFalsely : Prop := shaCompressesRow.holds Try.pinned (OpenSpec.ofChange shaCompressesWrong)

/-- 'umbralaw09.ShaSums': WHATEVER THE INPUT: true; the input reads as it did. -/
def shaSumsSpec : ChangeSpec := { name := "shaSums", fn := fun _ => fun
  | [d1, d2] => { results := [.lit (.bool true)], args := [d1, d2] }
  | _ => none }
def shaSumsRow : OpenClaim := { program := "ytkdflpdemoaifaa", sum := "dd14850b5a08e6a7aaffec2028684266114dc2e3396bb9df252f6b87891b496d", func := "umbra/umbralaw09.ShaSums", spec := "shaSums", apart := false }
def ShaSumsSaid : Prop := shaSumsRow.holds Try.pinned (OpenSpec.ofChange shaSumsSpec)

/-- ITS FALSE NEIGHBOUR: 'it returns false'. Refute it at one input. -/
def shaSumsWrong : ChangeSpec := { name := "shaSums", fn := fun _ => fun
  | [d1, d2] => { results := [.lit (.bool false)], args := [d1, d2] }
  | _ => none }
def ShaSumsWrongFalsely : Prop := shaSumsRow.holds Try.pinned (OpenSpec.ofChange shaSumsWrong)

/-- 'umbralaw09.ShaWrites': WHATEVER THE INPUT: true; the input reads as it did. -/
def shaWritesSpec : ChangeSpec := { name := "shaWrites", fn := fun _ => fun
  | [d] => { results := [.lit (.bool true)], args := [d] }
  | _ => none }
def shaWritesRow : OpenClaim := { program := "ytkdflpdemoaifaa", sum := "dd14850b5a08e6a7aaffec2028684266114dc2e3396bb9df252f6b87891b496d", func := "umbra/umbralaw09.ShaWrites", spec := "shaWrites", apart := false }
def ShaWritesSaid : Prop := shaWritesRow.holds Try.pinned (OpenSpec.ofChange shaWritesSpec)

/-- ITS FALSE NEIGHBOUR: 'it returns false'. Refute it at one input. -/
def shaWritesWrong : ChangeSpec := { name := "shaWrites", fn := fun _ => fun
  | [d] => { results := [.lit (.bool false)], args := [d] }
  | _ => none }
def ShaWritesWrongFalsely : Prop := shaWritesRow.holds Try.pinned (OpenSpec.ofChange shaWritesWrong)

/-- 'umbralaw09.ShaWhole': WHATEVER THE INPUT: true; the input reads as it did. -/
def shaWholeSpec : ChangeSpec := { name := "shaWhole", fn := fun _ => fun
  | [d] => { results := [.lit (.bool true)], args := [d] }
  | _ => none }
def shaWholeRow : OpenClaim := { program := "ytkdflpdemoaifaa", sum := "dd14850b5a08e6a7aaffec2028684266114dc2e3396bb9df252f6b87891b496d", func := "umbra/umbralaw09.ShaWhole", spec := "shaWhole", apart := false }
def ShaWholeSaid : Prop := shaWholeRow.holds Try.pinned (OpenSpec.ofChange shaWholeSpec)

/-- ITS FALSE NEIGHBOUR: 'it returns false'. Refute it at one input. -/
def shaWholeWrong : ChangeSpec := { name := "shaWhole", fn := fun _ => fun
  | [d] => { results := [.lit (.bool false)], args := [d] }
  | _ => none }
def ShaWholeWrongFalsely : Prop := shaWholeRow.holds Try.pinned (OpenSpec.ofChange shaWholeWrong)

/-- 'umbralaw09.ShaBack': WHATEVER THE INPUT: true; the input reads as it did. -/
def shaBackSpec : ChangeSpec := { name := "shaBack", fn := fun _ => fun
  | [d] => { results := [.lit (.bool true)], args := [d] }
  | _ => none }
def shaBackRow : OpenClaim := { program := "ytkdflpdemoaifaa", sum := "dd14850b5a08e6a7aaffec2028684266114dc2e3396bb9df252f6b87891b496d", func := "umbra/umbralaw09.ShaBack", spec := "shaBack", apart := false }
def ShaBackSaid : Prop := shaBackRow.holds Try.pinned (OpenSpec.ofChange shaBackSpec)

/-- ITS FALSE NEIGHBOUR: 'it returns false'. Refute it at one input. -/
def shaBackWrong : ChangeSpec := { name := "shaBack", fn := fun _ => fun
  | [d] => { results := [.lit (.bool false)], args := [d] }
  | _ => none }
def ShaBackWrongFalsely : Prop := shaBackRow.holds Try.pinned (OpenSpec.ofChange shaBackWrong)

/-- 'umbralaw09.ShaPads': WHATEVER THE INPUT: true; the input reads as it did. -/
def shaPadsSpec : ChangeSpec := { name := "shaPads", fn := fun _ => fun
  | [d] => { results := [.lit (.bool true)], args := [d] }
  | _ => none }
def shaPadsRow : OpenClaim := { program := "ytkdflpdemoaifaa", sum := "dd14850b5a08e6a7aaffec2028684266114dc2e3396bb9df252f6b87891b496d", func := "umbra/umbralaw09.ShaPads", spec := "shaPads", apart := false }
def ShaPadsSaid : Prop := shaPadsRow.holds Try.pinned (OpenSpec.ofChange shaPadsSpec)

/-- ITS FALSE NEIGHBOUR: 'it returns false'. Refute it at one input. -/
def shaPadsWrong : ChangeSpec := { name := "shaPads", fn := fun _ => fun
  | [d] => { results := [.lit (.bool false)], args := [d] }
  | _ => none }
def ShaPadsWrongFalsely : Prop := shaPadsRow.holds Try.pinned (OpenSpec.ofChange shaPadsWrong)

/-- 'umbralaw35.MacSums': WHATEVER THE INPUT: true; the input reads as it did. -/
def macSumsSpec : ChangeSpec := { name := "macSums", fn := fun _ => fun
  | [d1, d2] => { results := [.lit (.bool true)], args := [d1, d2] }
  | _ => none }
def macSumsRow : OpenClaim := { program := "ytkdflpdemoaifaa", sum := "dd14850b5a08e6a7aaffec2028684266114dc2e3396bb9df252f6b87891b496d", func := "umbra/umbralaw35.MacSums", spec := "macSums", apart := false }
def MacSumsSaid : Prop := macSumsRow.holds Try.pinned (OpenSpec.ofChange macSumsSpec)

/-- ITS FALSE NEIGHBOUR: 'it returns false'. Refute it at one input. -/
def macSumsWrong : ChangeSpec := { name := "macSums", fn := fun _ => fun
  | [d1, d2] => { results := [.lit (.bool false)], args := [d1, d2] }
  | _ => none }
def MacSumsWrongFalsely : Prop := macSumsRow.holds Try.pinned (OpenSpec.ofChange macSumsWrong)

/-- 'umbralaw35.MacLong': WHATEVER THE INPUT: true; the input reads as it did. -/
def macLongSpec : ChangeSpec := { name := "macLong", fn := fun _ => fun
  | [d1, d2] => { results := [.lit (.bool true)], args := [d1, d2] }
  | _ => none }
def macLongRow : OpenClaim := { program := "ytkdflpdemoaifaa", sum := "dd14850b5a08e6a7aaffec2028684266114dc2e3396bb9df252f6b87891b496d", func := "umbra/umbralaw35.MacLong", spec := "macLong", apart := false }
def MacLongSaid : Prop := macLongRow.holds Try.pinned (OpenSpec.ofChange macLongSpec)

/-- ITS FALSE NEIGHBOUR: 'it returns false'. Refute it at one input. -/
def macLongWrong : ChangeSpec := { name := "macLong", fn := fun _ => fun
  | [d1, d2] => { results := [.lit (.bool false)], args := [d1, d2] }
  | _ => none }
def MacLongWrongFalsely : Prop := macLongRow.holds Try.pinned (OpenSpec.ofChange macLongWrong)

/-- 'umbralaw09.ShaRoots': WHATEVER THE INPUT: true; the input reads as it did. -/
def shaRootsSpec : ChangeSpec := { name := "shaRoots", fn := fun _ => fun
  | [d1, d2] => { results := [.lit (.bool true)], args := [d1, d2] }
  | _ => none }
def shaRootsRow : OpenClaim := { program := "ytkdflpdemoaifaa", sum := "dd14850b5a08e6a7aaffec2028684266114dc2e3396bb9df252f6b87891b496d", func := "umbra/umbralaw09.ShaRoots", spec := "shaRoots", inPlace := ["math/bits.Add64"], apart := false }
def ShaRootsSaid : Prop := shaRootsRow.holds Try.pinned (OpenSpec.ofChange shaRootsSpec)

/-- ITS FALSE NEIGHBOUR: 'it returns false'. Refute it at one input. -/
def shaRootsWrong : ChangeSpec := { name := "shaRoots", fn := fun _ => fun
  | [d1, d2] => { results := [.lit (.bool false)], args := [d1, d2] }
  | _ => none }
def ShaRootsWrongFalsely : Prop := shaRootsRow.holds Try.pinned (OpenSpec.ofChange shaRootsWrong)

/-- 'umbralaw35.MacDerives': WHATEVER THE INPUT: true; the input reads as it did. -/
def macDerivesSpec : ChangeSpec := { name := "macDerives", fn := fun _ => fun
  | [d1, d2, d3] => { results := [.lit (.bool true)], args := [d1, d2, d3] }
  | _ => none }
def macDerivesRow : OpenClaim := { program := "ytkdflpdemoaifaa", sum := "dd14850b5a08e6a7aaffec2028684266114dc2e3396bb9df252f6b87891b496d", func := "umbra/umbralaw35.MacDerives", spec := "macDerives", apart := false }
def MacDerivesSaid : Prop := macDerivesRow.holds Try.pinned (OpenSpec.ofChange macDerivesSpec)

/-- ITS FALSE NEIGHBOUR: 'it returns false'. Refute it at one input. -/
def macDerivesWrong : ChangeSpec := { name := "macDerives", fn := fun _ => fun
  | [d1, d2, d3] => { results := [.lit (.bool false)], args := [d1, d2, d3] }
  | _ => none }
def MacDerivesWrongFalsely : Prop := macDerivesRow.holds Try.pinned (OpenSpec.ofChange macDerivesWrong)

/-- 'umbralaw35.MacBegins': WHATEVER THE INPUT: true; the input reads as it did. -/
def macBeginsSpec : ChangeSpec := { name := "macBegins", fn := fun _ => fun
  | [d1, d2, d3] => { results := [.lit (.bool true)], args := [d1, d2, d3] }
  | _ => none }
def macBeginsRow : OpenClaim := { program := "ytkdflpdemoaifaa", sum := "dd14850b5a08e6a7aaffec2028684266114dc2e3396bb9df252f6b87891b496d", func := "umbra/umbralaw35.MacBegins", spec := "macBegins", apart := false }
def MacBeginsSaid : Prop := macBeginsRow.holds Try.pinned (OpenSpec.ofChange macBeginsSpec)

/-- ITS FALSE NEIGHBOUR: 'it returns false'. Refute it at one input. -/
def macBeginsWrong : ChangeSpec := { name := "macBegins", fn := fun _ => fun
  | [d1, d2, d3] => { results := [.lit (.bool false)], args := [d1, d2, d3] }
  | _ => none }
def MacBeginsWrongFalsely : Prop := macBeginsRow.holds Try.pinned (OpenSpec.ofChange macBeginsWrong)

/-- 'umbralaw35.MacKeys': WHATEVER THE INPUT: true; the input reads as it did. -/
def macKeysSpec : ChangeSpec := { name := "macKeys", fn := fun _ => fun
  | [d1, d2, d3] => { results := [.lit (.bool true)], args := [d1, d2, d3] }
  | _ => none }
def macKeysRow : OpenClaim := { program := "ytkdflpdemoaifaa", sum := "dd14850b5a08e6a7aaffec2028684266114dc2e3396bb9df252f6b87891b496d", func := "umbra/umbralaw35.MacKeys", spec := "macKeys", apart := false }
def MacKeysSaid : Prop := macKeysRow.holds Try.pinned (OpenSpec.ofChange macKeysSpec)

/-- ITS FALSE NEIGHBOUR: 'it returns false'. Refute it at one input. -/
def macKeysWrong : ChangeSpec := { name := "macKeys", fn := fun _ => fun
  | [d1, d2, d3] => { results := [.lit (.bool false)], args := [d1, d2, d3] }
  | _ => none }
def MacKeysWrongFalsely : Prop := macKeysRow.holds Try.pinned (OpenSpec.ofChange macKeysWrong)

/-- 'umbralaw32.ChainParts': WHATEVER THE INPUT: true; the input reads as it did. -/
def chainPartsSpec : ChangeSpec := { name := "chainParts", fn := fun _ => fun
  | [d1, d2, d3] => { results := [.lit (.bool true)], args := [d1, d2, d3] }
  | _ => none }
def chainPartsRow : OpenClaim := { program := "ytkdflpdemoaifaa", sum := "dd14850b5a08e6a7aaffec2028684266114dc2e3396bb9df252f6b87891b496d", func := "umbra/umbralaw32.ChainParts", spec := "chainParts", apart := false }
def ChainPartsSaid : Prop := chainPartsRow.holds Try.pinned (OpenSpec.ofChange chainPartsSpec)

/-- ITS FALSE NEIGHBOUR: 'it returns false'. Refute it at one input. -/
def chainPartsWrong : ChangeSpec := { name := "chainParts", fn := fun _ => fun
  | [d1, d2, d3] => { results := [.lit (.bool false)], args := [d1, d2, d3] }
  | _ => none }
def ChainPartsWrongFalsely : Prop := chainPartsRow.holds Try.pinned (OpenSpec.ofChange chainPartsWrong)

/-- 'umbralaw32.ChainHeads': WHATEVER THE INPUT: true; the input reads as it did. -/
def chainHeadsSpec : ChangeSpec := { name := "chainHeads", fn := fun _ => fun
  | [d1, d2, d3] => { results := [.lit (.bool true)], args := [d1, d2, d3] }
  | _ => none }
def chainHeadsRow : OpenClaim := { program := "ytkdflpdemoaifaa", sum := "dd14850b5a08e6a7aaffec2028684266114dc2e3396bb9df252f6b87891b496d", func := "umbra/umbralaw32.ChainHeads", spec := "chainHeads", apart := false }
def ChainHeadsSaid : Prop := chainHeadsRow.holds Try.pinned (OpenSpec.ofChange chainHeadsSpec)

/-- ITS FALSE NEIGHBOUR: 'it returns false'. Refute it at one input. -/
def chainHeadsWrong : ChangeSpec := { name := "chainHeads", fn := fun _ => fun
  | [d1, d2, d3] => { results := [.lit (.bool false)], args := [d1, d2, d3] }
  | _ => none }
def ChainHeadsWrongFalsely : Prop := chainHeadsRow.holds Try.pinned (OpenSpec.ofChange chainHeadsWrong)

/-- 'umbralaw32.ChainAdds': WHATEVER THE INPUT: true; the input reads as it did. -/
def chainAddsSpec : ChangeSpec := { name := "chainAdds", fn := fun _ => fun
  | [d1, d2, d3] => { results := [.lit (.bool true)], args := [d1, d2, d3] }
  | _ => none }
def chainAddsRow : OpenClaim := { program := "ytkdflpdemoaifaa", sum := "dd14850b5a08e6a7aaffec2028684266114dc2e3396bb9df252f6b87891b496d", func := "umbra/umbralaw32.ChainAdds", spec := "chainAdds", apart := false }
def ChainAddsSaid : Prop := chainAddsRow.holds Try.pinned (OpenSpec.ofChange chainAddsSpec)

/-- ITS FALSE NEIGHBOUR: 'it returns false'. Refute it at one input. -/
def chainAddsWrong : ChangeSpec := { name := "chainAdds", fn := fun _ => fun
  | [d1, d2, d3] => { results := [.lit (.bool false)], args := [d1, d2, d3] }
  | _ => none }
def ChainAddsWrongFalsely : Prop := chainAddsRow.holds Try.pinned (OpenSpec.ofChange chainAddsWrong)

/-- 'umbralaw32.ChainVerifies': WHATEVER THE INPUT: true; the input reads as it did. -/
def chainVerifiesSpec : ChangeSpec := { name := "chainVerifies", fn := fun _ => fun
  | [d1, d2, d3] => { results := [.lit (.bool true)], args := [d1, d2, d3] }
  | _ => none }
def chainVerifiesRow : OpenClaim := { program := "ytkdflpdemoaifaa", sum := "dd14850b5a08e6a7aaffec2028684266114dc2e3396bb9df252f6b87891b496d", func := "umbra/umbralaw32.ChainVerifies", spec := "chainVerifies", apart := false }
def ChainVerifiesSaid : Prop := chainVerifiesRow.holds Try.pinned (OpenSpec.ofChange chainVerifiesSpec)

/-- ITS FALSE NEIGHBOUR: 'it returns false'. Refute it at one input. -/
def chainVerifiesWrong : ChangeSpec := { name := "chainVerifies", fn := fun _ => fun
  | [d1, d2, d3] => { results := [.lit (.bool false)], args := [d1, d2, d3] }
  | _ => none }
def ChainVerifiesWrongFalsely : Prop := chainVerifiesRow.holds Try.pinned (OpenSpec.ofChange chainVerifiesWrong)

/-- 'umbralaw32.ChainOut': WHATEVER THE INPUT: true; the input reads as it did. -/
def chainOutSpec : ChangeSpec := { name := "chainOut", fn := fun _ => fun
  | [d1, d2, d3] => { results := [.lit (.bool true)], args := [d1, d2, d3] }
  | _ => none }
def chainOutRow : OpenClaim := { program := "ytkdflpdemoaifaa", sum := "dd14850b5a08e6a7aaffec2028684266114dc2e3396bb9df252f6b87891b496d", func := "umbra/umbralaw32.ChainOut", spec := "chainOut", apart := false }
def ChainOutSaid : Prop := chainOutRow.holds Try.pinned (OpenSpec.ofChange chainOutSpec)

/-- ITS FALSE NEIGHBOUR: 'it returns false'. Refute it at one input. -/
def chainOutWrong : ChangeSpec := { name := "chainOut", fn := fun _ => fun
  | [d1, d2, d3] => { results := [.lit (.bool false)], args := [d1, d2, d3] }
  | _ => none }
def ChainOutWrongFalsely : Prop := chainOutRow.holds Try.pinned (OpenSpec.ofChange chainOutWrong)

/-- 'umbralaw32.ChainSound': WHATEVER THE INPUT: true; the input reads as it did. -/
def chainSoundSpec : ChangeSpec := { name := "chainSound", fn := fun _ => fun
  | [d1, d2, d3] => { results := [.lit (.bool true)], args := [d1, d2, d3] }
  | _ => none }
def chainSoundRow : OpenClaim := { program := "ytkdflpdemoaifaa", sum := "dd14850b5a08e6a7aaffec2028684266114dc2e3396bb9df252f6b87891b496d", func := "umbra/umbralaw32.ChainSound", spec := "chainSound", apart := false }
def ChainSoundSaid : Prop := chainSoundRow.holds Try.pinned (OpenSpec.ofChange chainSoundSpec)

/-- ITS FALSE NEIGHBOUR: 'it returns false'. Refute it at one input. -/
def chainSoundWrong : ChangeSpec := { name := "chainSound", fn := fun _ => fun
  | [d1, d2, d3] => { results := [.lit (.bool false)], args := [d1, d2, d3] }
  | _ => none }
def ChainSoundWrongFalsely : Prop := chainSoundRow.holds Try.pinned (OpenSpec.ofChange chainSoundWrong)

/-- 'umbralaw31.RecordMakes': WHATEVER THE INPUT: true; the input reads as it did. -/
def recordMakesSpec : ChangeSpec := { name := "recordMakes", fn := fun _ => fun
  | [d1, d2, d3] => { results := [.lit (.bool true)], args := [d1, d2, d3] }
  | _ => none }
def recordMakesRow : OpenClaim := { program := "ytkdflpdemoaifaa", sum := "dd14850b5a08e6a7aaffec2028684266114dc2e3396bb9df252f6b87891b496d", func := "umbra/umbralaw31.RecordMakes", spec := "recordMakes", unfollowed := true, recurses := true, apart := false }
def RecordMakesSaid : Prop := recordMakesRow.holds Try.pinned (OpenSpec.ofChange recordMakesSpec)

/-- ITS FALSE NEIGHBOUR: 'it returns false'. Refute it at one input. -/
def recordMakesWrong : ChangeSpec := { name := "recordMakes", fn := fun _ => fun
  | [d1, d2, d3] => { results := [.lit (.bool false)], args := [d1, d2, d3] }
  | _ => none }
def RecordMakesWrongFalsely : Prop := recordMakesRow.holds Try.pinned (OpenSpec.ofChange recordMakesWrong)

/-- 'umbralaw31.RecordPublic': WHATEVER THE INPUT: true; the input reads as it did. -/
def recordPublicSpec : ChangeSpec := { name := "recordPublic", fn := fun _ => fun
  | [d1, d2, d3] => { results := [.lit (.bool true)], args := [d1, d2, d3] }
  | _ => none }
def recordPublicRow : OpenClaim := { program := "ytkdflpdemoaifaa", sum := "dd14850b5a08e6a7aaffec2028684266114dc2e3396bb9df252f6b87891b496d", func := "umbra/umbralaw31.RecordPublic", spec := "recordPublic", unfollowed := true, recurses := true, apart := false }
def RecordPublicSaid : Prop := recordPublicRow.holds Try.pinned (OpenSpec.ofChange recordPublicSpec)

/-- ITS FALSE NEIGHBOUR: 'it returns false'. Refute it at one input. -/
def recordPublicWrong : ChangeSpec := { name := "recordPublic", fn := fun _ => fun
  | [d1, d2, d3] => { results := [.lit (.bool false)], args := [d1, d2, d3] }
  | _ => none }
def RecordPublicWrongFalsely : Prop := recordPublicRow.holds Try.pinned (OpenSpec.ofChange recordPublicWrong)

/-- 'umbralaw31.RecordEncodes': WHATEVER THE INPUT: true; the input reads as it did. -/
def recordEncodesSpec : ChangeSpec := { name := "recordEncodes", fn := fun _ => fun
  | [d1, d2] => { results := [.lit (.bool true)], args := [d1, d2] }
  | _ => none }
def recordEncodesRow : OpenClaim := { program := "ytkdflpdemoaifaa", sum := "dd14850b5a08e6a7aaffec2028684266114dc2e3396bb9df252f6b87891b496d", func := "umbra/umbralaw31.RecordEncodes", spec := "recordEncodes", unfollowed := true, recurses := true, apart := false }
def RecordEncodesSaid : Prop := recordEncodesRow.holds Try.pinned (OpenSpec.ofChange recordEncodesSpec)

/-- ITS FALSE NEIGHBOUR: 'it returns false'. Refute it at one input. -/
def recordEncodesWrong : ChangeSpec := { name := "recordEncodes", fn := fun _ => fun
  | [d1, d2] => { results := [.lit (.bool false)], args := [d1, d2] }
  | _ => none }
def RecordEncodesWrongFalsely : Prop := recordEncodesRow.holds Try.pinned (OpenSpec.ofChange recordEncodesWrong)

/-- 'umbralaw31.RecordDecodes': WHATEVER THE INPUT: true; the input reads as it did. -/
def recordDecodesSpec : ChangeSpec := { name := "recordDecodes", fn := fun _ => fun
  | [d] => { results := [.lit (.bool true)], args := [d] }
  | _ => none }
def recordDecodesRow : OpenClaim := { program := "ytkdflpdemoaifaa", sum := "dd14850b5a08e6a7aaffec2028684266114dc2e3396bb9df252f6b87891b496d", func := "umbra/umbralaw31.RecordDecodes", spec := "recordDecodes", unfollowed := true, recurses := true, apart := false }
def RecordDecodesSaid : Prop := recordDecodesRow.holds Try.pinned (OpenSpec.ofChange recordDecodesSpec)

/-- ITS FALSE NEIGHBOUR: 'it returns false'. Refute it at one input. -/
def recordDecodesWrong : ChangeSpec := { name := "recordDecodes", fn := fun _ => fun
  | [d] => { results := [.lit (.bool false)], args := [d] }
  | _ => none }
def RecordDecodesWrongFalsely : Prop := recordDecodesRow.holds Try.pinned (OpenSpec.ofChange recordDecodesWrong)

/-- 'umbralaw31.RecordBack': WHATEVER THE INPUT: true; the input reads as it did. -/
def recordBackSpec : ChangeSpec := { name := "recordBack", fn := fun _ => fun
  | [d1, d2] => { results := [.lit (.bool true)], args := [d1, d2] }
  | _ => none }
def recordBackRow : OpenClaim := { program := "ytkdflpdemoaifaa", sum := "dd14850b5a08e6a7aaffec2028684266114dc2e3396bb9df252f6b87891b496d", func := "umbra/umbralaw31.RecordBack", spec := "recordBack", unfollowed := true, recurses := true, apart := false }
def RecordBackSaid : Prop := recordBackRow.holds Try.pinned (OpenSpec.ofChange recordBackSpec)

/-- ITS FALSE NEIGHBOUR: 'it returns false'. Refute it at one input. -/
def recordBackWrong : ChangeSpec := { name := "recordBack", fn := fun _ => fun
  | [d1, d2] => { results := [.lit (.bool false)], args := [d1, d2] }
  | _ => none }
def RecordBackWrongFalsely : Prop := recordBackRow.holds Try.pinned (OpenSpec.ofChange recordBackWrong)

/- THE SECOND FORM. 'bulk': how many values and letters a reading holds, each counted each time it is reached (what is shared counts as often as it is met; a slice's spare places count too). A statement '..UptoSaid' is the law's where the arguments, and the package variables that the reading takes, are together of bulk at most 1048576: NARROWER than '..Said'. Prove '..Said' where nothing that the law and all that it calls make is longer than what came in: it says more and counts as full. Else prove '..UptoSaid'. A law counts once. -/
mutual
def uptoBulk {H : Type} : DataW H → Nat
  | .lit (.string bytes) => bytes.length + 1
  | .lit _ => 1
  | .nil => 1
  | .ptr d => uptoBulk d + 1
  | .slice elems spare => uptoBulkAll elems + uptoBulkAll spare + 1
  | .agg parts => uptoBulkAll parts + 1
  | .iface _ d => uptoBulk d + 1
  | .map entries => uptoBulkEntries entries + 1
  | .held _ => 1
def uptoBulkAll {H : Type} : List (DataW H) → Nat
  | [] => 0
  | d :: r => uptoBulk d + uptoBulkAll r
def uptoBulkEntries {H : Type} : List (Lit × DataW H) → Nat
  | [] => 0
  | x :: r => uptoBulkEntry x + uptoBulkEntries r
def uptoBulkEntry {H : Type} : Lit × DataW H → Nat
  | (.string bytes, d) => bytes.length + uptoBulk d + 1
  | (_, d) => uptoBulk d + 1
 end
def uptoSmall : (H : Type) → List (DataW H) → Bool := fun _ ds => decide (uptoBulkAll ds ≤ 1048576)
def OpenSpec.upto (s : _root_.Go.ChangeSpec) : _root_.Go.OpenSpec := { _root_.Go.OpenSpec.ofChange s with cond := some uptoSmall }

/-- 'umbralaw09.ShaCompresses', WHERE WHAT IT READS IS OF BULK AT MOST 1048576: true; the input reads as it did. -/
def shaCompressesUptoRow : OpenClaim := { program := "ytkdflpdemoaifaa", sum := "dd14850b5a08e6a7aaffec2028684266114dc2e3396bb9df252f6b87891b496d", func := "umbra/umbralaw09.ShaCompresses", spec := "shaCompresses", apart := false, narrowed := true }
def ShaCompressesUptoSaid : Prop := shaCompressesUptoRow.holds Try.pinned (OpenSpec.upto shaCompressesSpec)

/-- 'umbralaw09.ShaSums', WHERE WHAT IT READS IS OF BULK AT MOST 1048576: true; the input reads as it did. -/
def shaSumsUptoRow : OpenClaim := { program := "ytkdflpdemoaifaa", sum := "dd14850b5a08e6a7aaffec2028684266114dc2e3396bb9df252f6b87891b496d", func := "umbra/umbralaw09.ShaSums", spec := "shaSums", apart := false, narrowed := true }
def ShaSumsUptoSaid : Prop := shaSumsUptoRow.holds Try.pinned (OpenSpec.upto shaSumsSpec)

/-- 'umbralaw09.ShaWrites', WHERE WHAT IT READS IS OF BULK AT MOST 1048576: true; the input reads as it did. -/
def shaWritesUptoRow : OpenClaim := { program := "ytkdflpdemoaifaa", sum := "dd14850b5a08e6a7aaffec2028684266114dc2e3396bb9df252f6b87891b496d", func := "umbra/umbralaw09.ShaWrites", spec := "shaWrites", apart := false, narrowed := true }
def ShaWritesUptoSaid : Prop := shaWritesUptoRow.holds Try.pinned (OpenSpec.upto shaWritesSpec)

/-- 'umbralaw09.ShaWhole', WHERE WHAT IT READS IS OF BULK AT MOST 1048576: true; the input reads as it did. -/
def shaWholeUptoRow : OpenClaim := { program := "ytkdflpdemoaifaa", sum := "dd14850b5a08e6a7aaffec2028684266114dc2e3396bb9df252f6b87891b496d", func := "umbra/umbralaw09.ShaWhole", spec := "shaWhole", apart := false, narrowed := true }
def ShaWholeUptoSaid : Prop := shaWholeUptoRow.holds Try.pinned (OpenSpec.upto shaWholeSpec)

/-- 'umbralaw09.ShaBack', WHERE WHAT IT READS IS OF BULK AT MOST 1048576: true; the input reads as it did. -/
def shaBackUptoRow : OpenClaim := { program := "ytkdflpdemoaifaa", sum := "dd14850b5a08e6a7aaffec2028684266114dc2e3396bb9df252f6b87891b496d", func := "umbra/umbralaw09.ShaBack", spec := "shaBack", apart := false, narrowed := true }
def ShaBackUptoSaid : Prop := shaBackUptoRow.holds Try.pinned (OpenSpec.upto shaBackSpec)

/-- 'umbralaw09.ShaPads', WHERE WHAT IT READS IS OF BULK AT MOST 1048576: true; the input reads as it did. -/
def shaPadsUptoRow : OpenClaim := { program := "ytkdflpdemoaifaa", sum := "dd14850b5a08e6a7aaffec2028684266114dc2e3396bb9df252f6b87891b496d", func := "umbra/umbralaw09.ShaPads", spec := "shaPads", apart := false, narrowed := true }
def ShaPadsUptoSaid : Prop := shaPadsUptoRow.holds Try.pinned (OpenSpec.upto shaPadsSpec)

/-- 'umbralaw35.MacSums', WHERE WHAT IT READS IS OF BULK AT MOST 1048576: true; the input reads as it did. -/
def macSumsUptoRow : OpenClaim := { program := "ytkdflpdemoaifaa", sum := "dd14850b5a08e6a7aaffec2028684266114dc2e3396bb9df252f6b87891b496d", func := "umbra/umbralaw35.MacSums", spec := "macSums", apart := false, narrowed := true }
def MacSumsUptoSaid : Prop := macSumsUptoRow.holds Try.pinned (OpenSpec.upto macSumsSpec)

/-- 'umbralaw35.MacLong', WHERE WHAT IT READS IS OF BULK AT MOST 1048576: true; the input reads as it did. -/
def macLongUptoRow : OpenClaim := { program := "ytkdflpdemoaifaa", sum := "dd14850b5a08e6a7aaffec2028684266114dc2e3396bb9df252f6b87891b496d", func := "umbra/umbralaw35.MacLong", spec := "macLong", apart := false, narrowed := true }
def MacLongUptoSaid : Prop := macLongUptoRow.holds Try.pinned (OpenSpec.upto macLongSpec)

/-- 'umbralaw09.ShaRoots', WHERE WHAT IT READS IS OF BULK AT MOST 1048576: true; the input reads as it did. -/
def shaRootsUptoRow : OpenClaim := { program := "ytkdflpdemoaifaa", sum := "dd14850b5a08e6a7aaffec2028684266114dc2e3396bb9df252f6b87891b496d", func := "umbra/umbralaw09.ShaRoots", spec := "shaRoots", inPlace := ["math/bits.Add64"], apart := false, narrowed := true }
def ShaRootsUptoSaid : Prop := shaRootsUptoRow.holds Try.pinned (OpenSpec.upto shaRootsSpec)

/-- 'umbralaw35.MacDerives', WHERE WHAT IT READS IS OF BULK AT MOST 1048576: true; the input reads as it did. -/
def macDerivesUptoRow : OpenClaim := { program := "ytkdflpdemoaifaa", sum := "dd14850b5a08e6a7aaffec2028684266114dc2e3396bb9df252f6b87891b496d", func := "umbra/umbralaw35.MacDerives", spec := "macDerives", apart := false, narrowed := true }
def MacDerivesUptoSaid : Prop := macDerivesUptoRow.holds Try.pinned (OpenSpec.upto macDerivesSpec)

/-- 'umbralaw35.MacBegins', WHERE WHAT IT READS IS OF BULK AT MOST 1048576: true; the input reads as it did. -/
def macBeginsUptoRow : OpenClaim := { program := "ytkdflpdemoaifaa", sum := "dd14850b5a08e6a7aaffec2028684266114dc2e3396bb9df252f6b87891b496d", func := "umbra/umbralaw35.MacBegins", spec := "macBegins", apart := false, narrowed := true }
def MacBeginsUptoSaid : Prop := macBeginsUptoRow.holds Try.pinned (OpenSpec.upto macBeginsSpec)

/-- 'umbralaw35.MacKeys', WHERE WHAT IT READS IS OF BULK AT MOST 1048576: true; the input reads as it did. -/
def macKeysUptoRow : OpenClaim := { program := "ytkdflpdemoaifaa", sum := "dd14850b5a08e6a7aaffec2028684266114dc2e3396bb9df252f6b87891b496d", func := "umbra/umbralaw35.MacKeys", spec := "macKeys", apart := false, narrowed := true }
def MacKeysUptoSaid : Prop := macKeysUptoRow.holds Try.pinned (OpenSpec.upto macKeysSpec)

/-- 'umbralaw32.ChainParts', WHERE WHAT IT READS IS OF BULK AT MOST 1048576: true; the input reads as it did. -/
def chainPartsUptoRow : OpenClaim := { program := "ytkdflpdemoaifaa", sum := "dd14850b5a08e6a7aaffec2028684266114dc2e3396bb9df252f6b87891b496d", func := "umbra/umbralaw32.ChainParts", spec := "chainParts", apart := false, narrowed := true }
def ChainPartsUptoSaid : Prop := chainPartsUptoRow.holds Try.pinned (OpenSpec.upto chainPartsSpec)

/-- 'umbralaw32.ChainHeads', WHERE WHAT IT READS IS OF BULK AT MOST 1048576: true; the input reads as it did. -/
def chainHeadsUptoRow : OpenClaim := { program := "ytkdflpdemoaifaa", sum := "dd14850b5a08e6a7aaffec2028684266114dc2e3396bb9df252f6b87891b496d", func := "umbra/umbralaw32.ChainHeads", spec := "chainHeads", apart := false, narrowed := true }
def ChainHeadsUptoSaid : Prop := chainHeadsUptoRow.holds Try.pinned (OpenSpec.upto chainHeadsSpec)

/-- 'umbralaw32.ChainAdds', WHERE WHAT IT READS IS OF BULK AT MOST 1048576: true; the input reads as it did. -/
def chainAddsUptoRow : OpenClaim := { program := "ytkdflpdemoaifaa", sum := "dd14850b5a08e6a7aaffec2028684266114dc2e3396bb9df252f6b87891b496d", func := "umbra/umbralaw32.ChainAdds", spec := "chainAdds", apart := false, narrowed := true }
def ChainAddsUptoSaid : Prop := chainAddsUptoRow.holds Try.pinned (OpenSpec.upto chainAddsSpec)

/-- 'umbralaw32.ChainVerifies', WHERE WHAT IT READS IS OF BULK AT MOST 1048576: true; the input reads as it did. -/
def chainVerifiesUptoRow : OpenClaim := { program := "ytkdflpdemoaifaa", sum := "dd14850b5a08e6a7aaffec2028684266114dc2e3396bb9df252f6b87891b496d", func := "umbra/umbralaw32.ChainVerifies", spec := "chainVerifies", apart := false, narrowed := true }
def ChainVerifiesUptoSaid : Prop := chainVerifiesUptoRow.holds Try.pinned (OpenSpec.upto chainVerifiesSpec)

/-- 'umbralaw32.ChainOut', WHERE WHAT IT READS IS OF BULK AT MOST 1048576: true; the input reads as it did. -/
def chainOutUptoRow : OpenClaim := { program := "ytkdflpdemoaifaa", sum := "dd14850b5a08e6a7aaffec2028684266114dc2e3396bb9df252f6b87891b496d", func := "umbra/umbralaw32.ChainOut", spec := "chainOut", apart := false, narrowed := true }
def ChainOutUptoSaid : Prop := chainOutUptoRow.holds Try.pinned (OpenSpec.upto chainOutSpec)

/-- 'umbralaw32.ChainSound', WHERE WHAT IT READS IS OF BULK AT MOST 1048576: true; the input reads as it did. -/
def chainSoundUptoRow : OpenClaim := { program := "ytkdflpdemoaifaa", sum := "dd14850b5a08e6a7aaffec2028684266114dc2e3396bb9df252f6b87891b496d", func := "umbra/umbralaw32.ChainSound", spec := "chainSound", apart := false, narrowed := true }
def ChainSoundUptoSaid : Prop := chainSoundUptoRow.holds Try.pinned (OpenSpec.upto chainSoundSpec)

/-- 'umbralaw31.RecordMakes', WHERE WHAT IT READS IS OF BULK AT MOST 1048576: true; the input reads as it did. -/
def recordMakesUptoRow : OpenClaim := { program := "ytkdflpdemoaifaa", sum := "dd14850b5a08e6a7aaffec2028684266114dc2e3396bb9df252f6b87891b496d", func := "umbra/umbralaw31.RecordMakes", spec := "recordMakes", unfollowed := true, recurses := true, apart := false, narrowed := true }
def RecordMakesUptoSaid : Prop := recordMakesUptoRow.holds Try.pinned (OpenSpec.upto recordMakesSpec)

/-- 'umbralaw31.RecordPublic', WHERE WHAT IT READS IS OF BULK AT MOST 1048576: true; the input reads as it did. -/
def recordPublicUptoRow : OpenClaim := { program := "ytkdflpdemoaifaa", sum := "dd14850b5a08e6a7aaffec2028684266114dc2e3396bb9df252f6b87891b496d", func := "umbra/umbralaw31.RecordPublic", spec := "recordPublic", unfollowed := true, recurses := true, apart := false, narrowed := true }
def RecordPublicUptoSaid : Prop := recordPublicUptoRow.holds Try.pinned (OpenSpec.upto recordPublicSpec)

/-- 'umbralaw31.RecordEncodes', WHERE WHAT IT READS IS OF BULK AT MOST 1048576: true; the input reads as it did. -/
def recordEncodesUptoRow : OpenClaim := { program := "ytkdflpdemoaifaa", sum := "dd14850b5a08e6a7aaffec2028684266114dc2e3396bb9df252f6b87891b496d", func := "umbra/umbralaw31.RecordEncodes", spec := "recordEncodes", unfollowed := true, recurses := true, apart := false, narrowed := true }
def RecordEncodesUptoSaid : Prop := recordEncodesUptoRow.holds Try.pinned (OpenSpec.upto recordEncodesSpec)

/-- 'umbralaw31.RecordDecodes', WHERE WHAT IT READS IS OF BULK AT MOST 1048576: true; the input reads as it did. -/
def recordDecodesUptoRow : OpenClaim := { program := "ytkdflpdemoaifaa", sum := "dd14850b5a08e6a7aaffec2028684266114dc2e3396bb9df252f6b87891b496d", func := "umbra/umbralaw31.RecordDecodes", spec := "recordDecodes", unfollowed := true, recurses := true, apart := false, narrowed := true }
def RecordDecodesUptoSaid : Prop := recordDecodesUptoRow.holds Try.pinned (OpenSpec.upto recordDecodesSpec)

/-- 'umbralaw31.RecordBack', WHERE WHAT IT READS IS OF BULK AT MOST 1048576: true; the input reads as it did. -/
def recordBackUptoRow : OpenClaim := { program := "ytkdflpdemoaifaa", sum := "dd14850b5a08e6a7aaffec2028684266114dc2e3396bb9df252f6b87891b496d", func := "umbra/umbralaw31.RecordBack", spec := "recordBack", unfollowed := true, recurses := true, apart := false, narrowed := true }
def RecordBackUptoSaid : Prop := recordBackUptoRow.holds Try.pinned (OpenSpec.upto recordBackSpec)

end Rows
end Go.Proofs.Ytkdflpdemoaifaa
