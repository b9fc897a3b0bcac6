/-
  No cell of these rows narrows 'for every input' (looked for: loops, veiled, ifaces, maps, wideKeys, modest, calm, conditions, laid).
  DERIVED. THE GIVEN ROWS OF THIS SEAT. 21 by the template 'for every input the law returns true; each argument reads behind the call as it read before'; 0 by the template 'total and deterministic' (their statements: YtjaakhjfpigdfaaTotals.lean).
  GIVEN WITH THE SEED: the statements are not yours to turn. If you find one false, say at which input.
  Laid BY PROGRAM, IN A SANDBOX (cutbox-rows.mjs): the forced cells as the released guide's own fill.sh prints them over the translation e441b25e08071db7… (all of the seat's roots in one cut). By AI agents, Wed Nov 11 2026. No macro, syntax, notation, axiom, sorry.
-/
import Derived.Test.YtjaakhjfpigdfaaChecked
import GoSem.Claim
import GoSem.ClaimJoined
import GoSem.ClaimMapViews
import Derived.JoinedTies
import Derived.KernelRfl
namespace Go.Proofs.Ytjaakhjfpigdfaa
/- THE CELL 'sum', in the pinned program and in every row, IS THE sha256 OF THE DUMP (.gsa) THAT YtjaakhjfpigdfaaProg.lean LOADS. Nothing in Lean hashes anything: it is a label: what it is worth is what the hold of that sum in a sandbox is worth. -/
noncomputable def Try.pinned : Pinned := { name := "ytjaakhjfpigdfaa", sum := "e441b25e08071db7ef0fa66efd322891c889dc3de5de883c5f24d6aa8083741a", checked := Try.checked }
namespace Rows
def none {H : Type} : Left H := { results := [], args := [] }

/-- 'salternlaw03.ShaSums': WHATEVER THE INPUT: true; the input reads as it did. -/
def shaSumsSpec : ChangeSpec := { name := "shaSums", fn := fun _ => fun
  | [d] => { results := [.lit (.bool true)], args := [d] }
  | _ => none }
def shaSumsRow : OpenClaim := { program := "ytjaakhjfpigdfaa", sum := "e441b25e08071db7ef0fa66efd322891c889dc3de5de883c5f24d6aa8083741a", func := "saltern/salternlaw03.ShaSums", spec := "shaSums", inPlace := ["internal/abi.NoEscape"], apart := false }
def ShaSumsSaid : Prop := shaSumsRow.holds Try.pinned (OpenSpec.ofChange shaSumsSpec)

/-- ITS FALSE NEIGHBOUR: 'it returns false'. Refute it at one input. -/
def shaSumsWrong : ChangeSpec := { name := "shaSums", fn := fun _ => fun
  | [d] => { results := [.lit (.bool false)], args := [d] }
  | _ => none }
def ShaSumsWrongFalsely : Prop := shaSumsRow.holds Try.pinned (OpenSpec.ofChange shaSumsWrong)

/-- 'salternlaw03.ShaSteps': WHATEVER THE INPUT: true; the input reads as it did. -/
def shaStepsSpec : ChangeSpec := { name := "shaSteps", fn := fun _ => fun
  | [d1, d2, d3] => { results := [.lit (.bool true)], args := [d1, d2, d3] }
  | _ => none }
def shaStepsRow : OpenClaim := { program := "ytjaakhjfpigdfaa", sum := "e441b25e08071db7ef0fa66efd322891c889dc3de5de883c5f24d6aa8083741a", func := "saltern/salternlaw03.ShaSteps", spec := "shaSteps", inPlace := ["internal/abi.NoEscape"], apart := false }
def ShaStepsSaid : Prop := shaStepsRow.holds Try.pinned (OpenSpec.ofChange shaStepsSpec)

/-- ITS FALSE NEIGHBOUR: 'it returns false'. Refute it at one input. -/
def shaStepsWrong : ChangeSpec := { name := "shaSteps", fn := fun _ => fun
  | [d1, d2, d3] => { results := [.lit (.bool false)], args := [d1, d2, d3] }
  | _ => none }
def ShaStepsWrongFalsely : Prop := shaStepsRow.holds Try.pinned (OpenSpec.ofChange shaStepsWrong)

/-- 'salternlaw03.ShaCuts': WHATEVER THE INPUT: true; the input reads as it did. -/
def shaCutsSpec : ChangeSpec := { name := "shaCuts", fn := fun _ => fun
  | [d1, d2] => { results := [.lit (.bool true)], args := [d1, d2] }
  | _ => none }
def shaCutsRow : OpenClaim := { program := "ytjaakhjfpigdfaa", sum := "e441b25e08071db7ef0fa66efd322891c889dc3de5de883c5f24d6aa8083741a", func := "saltern/salternlaw03.ShaCuts", spec := "shaCuts", inPlace := ["internal/abi.NoEscape"], apart := false }
def ShaCutsSaid : Prop := shaCutsRow.holds Try.pinned (OpenSpec.ofChange shaCutsSpec)

/-- ITS FALSE NEIGHBOUR: 'it returns false'. Refute it at one input. -/
def shaCutsWrong : ChangeSpec := { name := "shaCuts", fn := fun _ => fun
  | [d1, d2] => { results := [.lit (.bool false)], args := [d1, d2] }
  | _ => none }
def ShaCutsWrongFalsely : Prop := shaCutsRow.holds Try.pinned (OpenSpec.ofChange shaCutsWrong)

/-- 'salternlaw03.ShaBlocks': WHATEVER THE INPUT: true; the input reads as it did. -/
def shaBlocksSpec : ChangeSpec := { name := "shaBlocks", fn := fun _ => fun
  | [d1, d2] => { results := [.lit (.bool true)], args := [d1, d2] }
  | _ => none }
def shaBlocksRow : OpenClaim := { program := "ytjaakhjfpigdfaa", sum := "e441b25e08071db7ef0fa66efd322891c889dc3de5de883c5f24d6aa8083741a", func := "saltern/salternlaw03.ShaBlocks", spec := "shaBlocks", inPlace := ["internal/abi.NoEscape"], apart := false }
def ShaBlocksSaid : Prop := shaBlocksRow.holds Try.pinned (OpenSpec.ofChange shaBlocksSpec)

/-- ITS FALSE NEIGHBOUR: 'it returns false'. Refute it at one input. -/
def shaBlocksWrong : ChangeSpec := { name := "shaBlocks", fn := fun _ => fun
  | [d1, d2] => { results := [.lit (.bool false)], args := [d1, d2] }
  | _ => none }
def ShaBlocksWrongFalsely : Prop := shaBlocksRow.holds Try.pinned (OpenSpec.ofChange shaBlocksWrong)

/-- 'salternlaw03.ShaTexts': WHATEVER THE INPUT: true; the input reads as it did. -/
def shaTextsSpec : ChangeSpec := { name := "shaTexts", fn := fun _ => fun
  | [d1, d2] => { results := [.lit (.bool true)], args := [d1, d2] }
  | _ => none }
def shaTextsRow : OpenClaim := { program := "ytjaakhjfpigdfaa", sum := "e441b25e08071db7ef0fa66efd322891c889dc3de5de883c5f24d6aa8083741a", func := "saltern/salternlaw03.ShaTexts", spec := "shaTexts", inPlace := ["internal/bytealg.IndexByteString", "internal/abi.NoEscape"], apart := false }
def ShaTextsSaid : Prop := shaTextsRow.holds Try.pinned (OpenSpec.ofChange shaTextsSpec)

/-- ITS FALSE NEIGHBOUR: 'it returns false'. Refute it at one input. -/
def shaTextsWrong : ChangeSpec := { name := "shaTexts", fn := fun _ => fun
  | [d1, d2] => { results := [.lit (.bool false)], args := [d1, d2] }
  | _ => none }
def ShaTextsWrongFalsely : Prop := shaTextsRow.holds Try.pinned (OpenSpec.ofChange shaTextsWrong)

/-- 'salternlaw03.ShaPieces': WHATEVER THE INPUT: true; the input reads as it did. -/
def shaPiecesSpec : ChangeSpec := { name := "shaPieces", fn := fun _ => fun
  | [d1, d2, d3] => { results := [.lit (.bool true)], args := [d1, d2, d3] }
  | _ => none }
def shaPiecesRow : OpenClaim := { program := "ytjaakhjfpigdfaa", sum := "e441b25e08071db7ef0fa66efd322891c889dc3de5de883c5f24d6aa8083741a", func := "saltern/salternlaw03.ShaPieces", spec := "shaPieces", inPlace := ["internal/abi.NoEscape"], apart := false }
def ShaPiecesSaid : Prop := shaPiecesRow.holds Try.pinned (OpenSpec.ofChange shaPiecesSpec)

/-- ITS FALSE NEIGHBOUR: 'it returns false'. Refute it at one input. -/
def shaPiecesWrong : ChangeSpec := { name := "shaPieces", fn := fun _ => fun
  | [d1, d2, d3] => { results := [.lit (.bool false)], args := [d1, d2, d3] }
  | _ => none }
def ShaPiecesWrongFalsely : Prop := shaPiecesRow.holds Try.pinned (OpenSpec.ofChange shaPiecesWrong)

/-- 'salternlaw03.ShaNobody': WHATEVER THE INPUT: true; the input reads as it did. -/
def shaNobodySpec : ChangeSpec := { name := "shaNobody", fn := fun _ => fun
  | [d] => { results := [.lit (.bool true)], args := [d] }
  | _ => none }
def shaNobodyRow : OpenClaim := { program := "ytjaakhjfpigdfaa", sum := "e441b25e08071db7ef0fa66efd322891c889dc3de5de883c5f24d6aa8083741a", func := "saltern/salternlaw03.ShaNobody", spec := "shaNobody", inPlace := ["internal/abi.NoEscape"], apart := false }
def ShaNobodySaid : Prop := shaNobodyRow.holds Try.pinned (OpenSpec.ofChange shaNobodySpec)

/-- ITS FALSE NEIGHBOUR: 'it returns false'. Refute it at one input. -/
def shaNobodyWrong : ChangeSpec := { name := "shaNobody", fn := fun _ => fun
  | [d] => { results := [.lit (.bool false)], args := [d] }
  | _ => none }
def ShaNobodyWrongFalsely : Prop := shaNobodyRow.holds Try.pinned (OpenSpec.ofChange shaNobodyWrong)

/-- 'salternlaw04.MacKeys': WHATEVER THE INPUT: true; the input reads as it did. -/
def macKeysSpec : ChangeSpec := { name := "macKeys", fn := fun _ => fun
  | [d1, d2] => { results := [.lit (.bool true)], args := [d1, d2] }
  | _ => none }
def macKeysRow : OpenClaim := { program := "ytjaakhjfpigdfaa", sum := "e441b25e08071db7ef0fa66efd322891c889dc3de5de883c5f24d6aa8083741a", func := "saltern/salternlaw04.MacKeys", spec := "macKeys", apart := false }
def MacKeysSaid : Prop := macKeysRow.holds Try.pinned (OpenSpec.ofChange macKeysSpec)

/-- ITS FALSE NEIGHBOUR: 'it returns false'. Refute it at one input. -/
def macKeysWrong : ChangeSpec := { name := "macKeys", fn := fun _ => fun
  | [d1, d2] => { results := [.lit (.bool false)], args := [d1, d2] }
  | _ => none }
def MacKeysWrongFalsely : Prop := macKeysRow.holds Try.pinned (OpenSpec.ofChange macKeysWrong)

/-- 'salternlaw04.MacSums': WHATEVER THE INPUT: true; the input reads as it did. -/
def macSumsSpec : ChangeSpec := { name := "macSums", fn := fun _ => fun
  | [d1, d2, d3, d4, d5] => { results := [.lit (.bool true)], args := [d1, d2, d3, d4, d5] }
  | _ => none }
def macSumsRow : OpenClaim := { program := "ytjaakhjfpigdfaa", sum := "e441b25e08071db7ef0fa66efd322891c889dc3de5de883c5f24d6aa8083741a", func := "saltern/salternlaw04.MacSums", spec := "macSums", apart := false }
def MacSumsSaid : Prop := macSumsRow.holds Try.pinned (OpenSpec.ofChange macSumsSpec)

/-- ITS FALSE NEIGHBOUR: 'it returns false'. Refute it at one input. -/
def macSumsWrong : ChangeSpec := { name := "macSums", fn := fun _ => fun
  | [d1, d2, d3, d4, d5] => { results := [.lit (.bool false)], args := [d1, d2, d3, d4, d5] }
  | _ => none }
def MacSumsWrongFalsely : Prop := macSumsRow.holds Try.pinned (OpenSpec.ofChange macSumsWrong)

/-- 'salternlaw04.MacSame': WHATEVER THE INPUT: true; the input reads as it did. -/
def macSameSpec : ChangeSpec := { name := "macSame", fn := fun _ => fun
  | [d1, d2] => { results := [.lit (.bool true)], args := [d1, d2] }
  | _ => none }
def macSameRow : OpenClaim := { program := "ytjaakhjfpigdfaa", sum := "e441b25e08071db7ef0fa66efd322891c889dc3de5de883c5f24d6aa8083741a", func := "saltern/salternlaw04.MacSame", spec := "macSame", apart := false }
def MacSameSaid : Prop := macSameRow.holds Try.pinned (OpenSpec.ofChange macSameSpec)

/-- ITS FALSE NEIGHBOUR: 'it returns false'. Refute it at one input. -/
def macSameWrong : ChangeSpec := { name := "macSame", fn := fun _ => fun
  | [d1, d2] => { results := [.lit (.bool false)], args := [d1, d2] }
  | _ => none }
def MacSameWrongFalsely : Prop := macSameRow.holds Try.pinned (OpenSpec.ofChange macSameWrong)

/-- 'salternlaw04.MacSeals': WHATEVER THE INPUT: true; the input reads as it did. -/
def macSealsSpec : ChangeSpec := { name := "macSeals", fn := fun _ => fun
  | [d1, d2] => { results := [.lit (.bool true)], args := [d1, d2] }
  | _ => none }
def macSealsRow : OpenClaim := { program := "ytjaakhjfpigdfaa", sum := "e441b25e08071db7ef0fa66efd322891c889dc3de5de883c5f24d6aa8083741a", func := "saltern/salternlaw04.MacSeals", spec := "macSeals", apart := false }
def MacSealsSaid : Prop := macSealsRow.holds Try.pinned (OpenSpec.ofChange macSealsSpec)

/-- ITS FALSE NEIGHBOUR: 'it returns false'. Refute it at one input. -/
def macSealsWrong : ChangeSpec := { name := "macSeals", fn := fun _ => fun
  | [d1, d2] => { results := [.lit (.bool false)], args := [d1, d2] }
  | _ => none }
def MacSealsWrongFalsely : Prop := macSealsRow.holds Try.pinned (OpenSpec.ofChange macSealsWrong)

/-- 'salternlaw04.MacBack': WHATEVER THE INPUT: true; the input reads as it did. -/
def macBackSpec : ChangeSpec := { name := "macBack", fn := fun _ => fun
  | [d1, d2, d3, d4] => { results := [.lit (.bool true)], args := [d1, d2, d3, d4] }
  | _ => none }
def macBackRow : OpenClaim := { program := "ytjaakhjfpigdfaa", sum := "e441b25e08071db7ef0fa66efd322891c889dc3de5de883c5f24d6aa8083741a", func := "saltern/salternlaw04.MacBack", spec := "macBack", apart := false }
def MacBackSaid : Prop := macBackRow.holds Try.pinned (OpenSpec.ofChange macBackSpec)

/-- ITS FALSE NEIGHBOUR: 'it returns false'. Refute it at one input. -/
def macBackWrong : ChangeSpec := { name := "macBack", fn := fun _ => fun
  | [d1, d2, d3, d4] => { results := [.lit (.bool false)], args := [d1, d2, d3, d4] }
  | _ => none }
def MacBackWrongFalsely : Prop := macBackRow.holds Try.pinned (OpenSpec.ofChange macBackWrong)

/-- 'salternlaw04.MacNobody': WHATEVER THE INPUT: true; the input reads as it did. -/
def macNobodySpec : ChangeSpec := { name := "macNobody", fn := fun _ => fun
  | [d] => { results := [.lit (.bool true)], args := [d] }
  | _ => none }
def macNobodyRow : OpenClaim := { program := "ytjaakhjfpigdfaa", sum := "e441b25e08071db7ef0fa66efd322891c889dc3de5de883c5f24d6aa8083741a", func := "saltern/salternlaw04.MacNobody", spec := "macNobody", apart := false }
def MacNobodySaid : Prop := macNobodyRow.holds Try.pinned (OpenSpec.ofChange macNobodySpec)

/-- ITS FALSE NEIGHBOUR: 'it returns false'. Refute it at one input. -/
def macNobodyWrong : ChangeSpec := { name := "macNobody", fn := fun _ => fun
  | [d] => { results := [.lit (.bool false)], args := [d] }
  | _ => none }
def MacNobodyWrongFalsely : Prop := macNobodyRow.holds Try.pinned (OpenSpec.ofChange macNobodyWrong)

/-- 'salternlaw04.MacWrites': WHATEVER THE INPUT: true; the input reads as it did. -/
def macWritesSpec : ChangeSpec := { name := "macWrites", fn := fun _ => fun
  | [d1, d2] => { results := [.lit (.bool true)], args := [d1, d2] }
  | _ => none }
def macWritesRow : OpenClaim := { program := "ytjaakhjfpigdfaa", sum := "e441b25e08071db7ef0fa66efd322891c889dc3de5de883c5f24d6aa8083741a", func := "saltern/salternlaw04.MacWrites", spec := "macWrites", apart := false }
def MacWritesSaid : Prop := macWritesRow.holds Try.pinned (OpenSpec.ofChange macWritesSpec)

/-- ITS FALSE NEIGHBOUR: 'it returns false'. Refute it at one input. -/
def macWritesWrong : ChangeSpec := { name := "macWrites", fn := fun _ => fun
  | [d1, d2] => { results := [.lit (.bool false)], args := [d1, d2] }
  | _ => none }
def MacWritesWrongFalsely : Prop := macWritesRow.holds Try.pinned (OpenSpec.ofChange macWritesWrong)

/-- 'salternlaw04.MacPieces': WHATEVER THE INPUT: true; the input reads as it did. -/
def macPiecesSpec : ChangeSpec := { name := "macPieces", fn := fun _ => fun
  | [d1, d2, d3] => { results := [.lit (.bool true)], args := [d1, d2, d3] }
  | _ => none }
def macPiecesRow : OpenClaim := { program := "ytjaakhjfpigdfaa", sum := "e441b25e08071db7ef0fa66efd322891c889dc3de5de883c5f24d6aa8083741a", func := "saltern/salternlaw04.MacPieces", spec := "macPieces", apart := false }
def MacPiecesSaid : Prop := macPiecesRow.holds Try.pinned (OpenSpec.ofChange macPiecesSpec)

/-- ITS FALSE NEIGHBOUR: 'it returns false'. Refute it at one input. -/
def macPiecesWrong : ChangeSpec := { name := "macPieces", fn := fun _ => fun
  | [d1, d2, d3] => { results := [.lit (.bool false)], args := [d1, d2, d3] }
  | _ => none }
def MacPiecesWrongFalsely : Prop := macPiecesRow.holds Try.pinned (OpenSpec.ofChange macPiecesWrong)

/-- 'salternlaw18.FrameWrites': WHATEVER THE INPUT: true; the input reads as it did. -/
def frameWritesSpec : ChangeSpec := { name := "frameWrites", fn := fun _ => fun
  | [d1, d2, d3] => { results := [.lit (.bool true)], args := [d1, d2, d3] }
  | _ => none }
def frameWritesRow : OpenClaim := { program := "ytjaakhjfpigdfaa", sum := "e441b25e08071db7ef0fa66efd322891c889dc3de5de883c5f24d6aa8083741a", func := "saltern/salternlaw18.FrameWrites", spec := "frameWrites", unfollowed := true, recurses := true, apart := false }
def FrameWritesSaid : Prop := frameWritesRow.holds Try.pinned (OpenSpec.ofChange frameWritesSpec)

/-- ITS FALSE NEIGHBOUR: 'it returns false'. Refute it at one input. -/
def frameWritesWrong : ChangeSpec := { name := "frameWrites", fn := fun _ => fun
  | [d1, d2, d3] => { results := [.lit (.bool false)], args := [d1, d2, d3] }
  | _ => none }
def FrameWritesWrongFalsely : Prop := frameWritesRow.holds Try.pinned (OpenSpec.ofChange frameWritesWrong)

/-- 'salternlaw18.FrameReads': WHATEVER THE INPUT: true; the input reads as it did. -/
def frameReadsSpec : ChangeSpec := { name := "frameReads", fn := fun _ => fun
  | [d1, d2] => { results := [.lit (.bool true)], args := [d1, d2] }
  | _ => none }
def frameReadsRow : OpenClaim := { program := "ytjaakhjfpigdfaa", sum := "e441b25e08071db7ef0fa66efd322891c889dc3de5de883c5f24d6aa8083741a", func := "saltern/salternlaw18.FrameReads", spec := "frameReads", unfollowed := true, recurses := true, apart := false }
def FrameReadsSaid : Prop := frameReadsRow.holds Try.pinned (OpenSpec.ofChange frameReadsSpec)

/-- ITS FALSE NEIGHBOUR: 'it returns false'. Refute it at one input. -/
def frameReadsWrong : ChangeSpec := { name := "frameReads", fn := fun _ => fun
  | [d1, d2] => { results := [.lit (.bool false)], args := [d1, d2] }
  | _ => none }
def FrameReadsWrongFalsely : Prop := frameReadsRow.holds Try.pinned (OpenSpec.ofChange frameReadsWrong)

/-- 'salternlaw18.FrameSealed': WHATEVER THE INPUT: true; the input reads as it did. -/
def frameSealedSpec : ChangeSpec := { name := "frameSealed", fn := fun _ => fun
  | [d1, d2] => { results := [.lit (.bool true)], args := [d1, d2] }
  | _ => none }
def frameSealedRow : OpenClaim := { program := "ytjaakhjfpigdfaa", sum := "e441b25e08071db7ef0fa66efd322891c889dc3de5de883c5f24d6aa8083741a", func := "saltern/salternlaw18.FrameSealed", spec := "frameSealed", unfollowed := true, recurses := true, apart := false }
def FrameSealedSaid : Prop := frameSealedRow.holds Try.pinned (OpenSpec.ofChange frameSealedSpec)

/-- ITS FALSE NEIGHBOUR: 'it returns false'. Refute it at one input. -/
def frameSealedWrong : ChangeSpec := { name := "frameSealed", fn := fun _ => fun
  | [d1, d2] => { results := [.lit (.bool false)], args := [d1, d2] }
  | _ => none }
def FrameSealedWrongFalsely : Prop := frameSealedRow.holds Try.pinned (OpenSpec.ofChange frameSealedWrong)

/-- 'salternlaw18.FrameMeets': WHATEVER THE INPUT: true; the input reads as it did. -/
def frameMeetsSpec : ChangeSpec := { name := "frameMeets", fn := fun _ => fun
  | [d1, d2, d3, d4] => { results := [.lit (.bool true)], args := [d1, d2, d3, d4] }
  | _ => none }
def frameMeetsRow : OpenClaim := { program := "ytjaakhjfpigdfaa", sum := "e441b25e08071db7ef0fa66efd322891c889dc3de5de883c5f24d6aa8083741a", func := "saltern/salternlaw18.FrameMeets", spec := "frameMeets", unfollowed := true, recurses := true, apart := false }
def FrameMeetsSaid : Prop := frameMeetsRow.holds Try.pinned (OpenSpec.ofChange frameMeetsSpec)

/-- ITS FALSE NEIGHBOUR: 'it returns false'. Refute it at one input. -/
def frameMeetsWrong : ChangeSpec := { name := "frameMeets", fn := fun _ => fun
  | [d1, d2, d3, d4] => { results := [.lit (.bool false)], args := [d1, d2, d3, d4] }
  | _ => none }
def FrameMeetsWrongFalsely : Prop := frameMeetsRow.holds Try.pinned (OpenSpec.ofChange frameMeetsWrong)

/-- 'salternlaw18.FrameBack': WHATEVER THE INPUT: true; the input reads as it did. -/
def frameBackSpec : ChangeSpec := { name := "frameBack", fn := fun _ => fun
  | [d1, d2, d3] => { results := [.lit (.bool true)], args := [d1, d2, d3] }
  | _ => none }
def frameBackRow : OpenClaim := { program := "ytjaakhjfpigdfaa", sum := "e441b25e08071db7ef0fa66efd322891c889dc3de5de883c5f24d6aa8083741a", func := "saltern/salternlaw18.FrameBack", spec := "frameBack", unfollowed := true, recurses := true, apart := false }
def FrameBackSaid : Prop := frameBackRow.holds Try.pinned (OpenSpec.ofChange frameBackSpec)

/-- ITS FALSE NEIGHBOUR: 'it returns false'. Refute it at one input. -/
def frameBackWrong : ChangeSpec := { name := "frameBack", fn := fun _ => fun
  | [d1, d2, d3] => { results := [.lit (.bool false)], args := [d1, d2, d3] }
  | _ => none }
def FrameBackWrongFalsely : Prop := frameBackRow.holds Try.pinned (OpenSpec.ofChange frameBackWrong)

/-- 'salternlaw18.FrameForged': WHATEVER THE INPUT: true; the input reads as it did. -/
def frameForgedSpec : ChangeSpec := { name := "frameForged", fn := fun _ => fun
  | [d1, d2, d3, d4] => { results := [.lit (.bool true)], args := [d1, d2, d3, d4] }
  | _ => none }
def frameForgedRow : OpenClaim := { program := "ytjaakhjfpigdfaa", sum := "e441b25e08071db7ef0fa66efd322891c889dc3de5de883c5f24d6aa8083741a", func := "saltern/salternlaw18.FrameForged", spec := "frameForged", unfollowed := true, recurses := true, apart := false }
def FrameForgedSaid : Prop := frameForgedRow.holds Try.pinned (OpenSpec.ofChange frameForgedSpec)

/-- ITS FALSE NEIGHBOUR: 'it returns false'. Refute it at one input. -/
def frameForgedWrong : ChangeSpec := { name := "frameForged", fn := fun _ => fun
  | [d1, d2, d3, d4] => { results := [.lit (.bool false)], args := [d1, d2, d3, d4] }
  | _ => none }
def FrameForgedWrongFalsely : Prop := frameForgedRow.holds Try.pinned (OpenSpec.ofChange frameForgedWrong)

/- THE SECOND FORM. 'bulk': how many values and letters a reading holds, each counted each time it is reached (what is shared counts as often as it is met; a slice's spare places count too). A statement '..UptoSaid' is the law's where the arguments, and the package variables that the reading takes, are together of bulk at most 1048576: NARROWER than '..Said'. Prove '..Said' where nothing that the law and all that it calls make is longer than what came in: it says more and counts as full. Else prove '..UptoSaid'. A law counts once. -/
mutual
def uptoBulk {H : Type} : DataW H → Nat
  | .lit (.string bytes) => bytes.length + 1
  | .lit _ => 1
  | .nil => 1
  | .ptr d => uptoBulk d + 1
  | .slice elems spare => uptoBulkAll elems + uptoBulkAll spare + 1
  | .agg parts => uptoBulkAll parts + 1
  | .iface _ d => uptoBulk d + 1
  | .map entries => uptoBulkEntries entries + 1
  | .held _ => 1
def uptoBulkAll {H : Type} : List (DataW H) → Nat
  | [] => 0
  | d :: r => uptoBulk d + uptoBulkAll r
def uptoBulkEntries {H : Type} : List (Lit × DataW H) → Nat
  | [] => 0
  | x :: r => uptoBulkEntry x + uptoBulkEntries r
def uptoBulkEntry {H : Type} : Lit × DataW H → Nat
  | (.string bytes, d) => bytes.length + uptoBulk d + 1
  | (_, d) => uptoBulk d + 1
 end
def uptoSmall : (H : Type) → List (DataW H) → Bool := fun _ ds => decide (uptoBulkAll ds ≤ 1048576)
def OpenSpec.upto (s : _root_.Go.ChangeSpec) : _root_.Go.OpenSpec := { _root_.Go.OpenSpec.ofChange s with cond := some uptoSmall }

/-- 'salternlaw03.ShaSums', WHERE WHAT IT READS IS OF BULK AT MOST 1048576: true; the input reads as it did. -/
def shaSumsUptoRow : OpenClaim := { program := "ytjaakhjfpigdfaa", sum := "e441b25e08071db7ef0fa66efd322891c889dc3de5de883c5f24d6aa8083741a", func := "saltern/salternlaw03.ShaSums", spec := "shaSums", inPlace := ["internal/abi.NoEscape"], apart := false, narrowed := true }
def ShaSumsUptoSaid : Prop := shaSumsUptoRow.holds Try.pinned (OpenSpec.upto shaSumsSpec)

/-- 'salternlaw03.ShaSteps', WHERE WHAT IT READS IS OF BULK AT MOST 1048576: true; the input reads as it did. -/
def shaStepsUptoRow : OpenClaim := { program := "ytjaakhjfpigdfaa", sum := "e441b25e08071db7ef0fa66efd322891c889dc3de5de883c5f24d6aa8083741a", func := "saltern/salternlaw03.ShaSteps", spec := "shaSteps", inPlace := ["internal/abi.NoEscape"], apart := false, narrowed := true }
def ShaStepsUptoSaid : Prop := shaStepsUptoRow.holds Try.pinned (OpenSpec.upto shaStepsSpec)

/-- 'salternlaw03.ShaCuts', WHERE WHAT IT READS IS OF BULK AT MOST 1048576: true; the input reads as it did. -/
def shaCutsUptoRow : OpenClaim := { program := "ytjaakhjfpigdfaa", sum := "e441b25e08071db7ef0fa66efd322891c889dc3de5de883c5f24d6aa8083741a", func := "saltern/salternlaw03.ShaCuts", spec := "shaCuts", inPlace := ["internal/abi.NoEscape"], apart := false, narrowed := true }
def ShaCutsUptoSaid : Prop := shaCutsUptoRow.holds Try.pinned (OpenSpec.upto shaCutsSpec)

/-- 'salternlaw03.ShaBlocks', WHERE WHAT IT READS IS OF BULK AT MOST 1048576: true; the input reads as it did. -/
def shaBlocksUptoRow : OpenClaim := { program := "ytjaakhjfpigdfaa", sum := "e441b25e08071db7ef0fa66efd322891c889dc3de5de883c5f24d6aa8083741a", func := "saltern/salternlaw03.ShaBlocks", spec := "shaBlocks", inPlace := ["internal/abi.NoEscape"], apart := false, narrowed := true }
def ShaBlocksUptoSaid : Prop := shaBlocksUptoRow.holds Try.pinned (OpenSpec.upto shaBlocksSpec)

/-- 'salternlaw03.ShaTexts', WHERE WHAT IT READS IS OF BULK AT MOST 1048576: true; the input reads as it did. -/
def shaTextsUptoRow : OpenClaim := { program := "ytjaakhjfpigdfaa", sum := "e441b25e08071db7ef0fa66efd322891c889dc3de5de883c5f24d6aa8083741a", func := "saltern/salternlaw03.ShaTexts", spec := "shaTexts", inPlace := ["internal/bytealg.IndexByteString", "internal/abi.NoEscape"], apart := false, narrowed := true }
def ShaTextsUptoSaid : Prop := shaTextsUptoRow.holds Try.pinned (OpenSpec.upto shaTextsSpec)

/-- 'salternlaw03.ShaPieces', WHERE WHAT IT READS IS OF BULK AT MOST 1048576: true; the input reads as it did. -/
def shaPiecesUptoRow : OpenClaim := { program := "ytjaakhjfpigdfaa", sum := "e441b25e08071db7ef0fa66efd322891c889dc3de5de883c5f24d6aa8083741a", func := "saltern/salternlaw03.ShaPieces", spec := "shaPieces", inPlace := ["internal/abi.NoEscape"], apart := false, narrowed := true }
def ShaPiecesUptoSaid : Prop := shaPiecesUptoRow.holds Try.pinned (OpenSpec.upto shaPiecesSpec)

/-- 'salternlaw03.ShaNobody', WHERE WHAT IT READS IS OF BULK AT MOST 1048576: true; the input reads as it did. -/
def shaNobodyUptoRow : OpenClaim := { program := "ytjaakhjfpigdfaa", sum := "e441b25e08071db7ef0fa66efd322891c889dc3de5de883c5f24d6aa8083741a", func := "saltern/salternlaw03.ShaNobody", spec := "shaNobody", inPlace := ["internal/abi.NoEscape"], apart := false, narrowed := true }
def ShaNobodyUptoSaid : Prop := shaNobodyUptoRow.holds Try.pinned (OpenSpec.upto shaNobodySpec)

/-- 'salternlaw04.MacKeys', WHERE WHAT IT READS IS OF BULK AT MOST 1048576: true; the input reads as it did. -/
def macKeysUptoRow : OpenClaim := { program := "ytjaakhjfpigdfaa", sum := "e441b25e08071db7ef0fa66efd322891c889dc3de5de883c5f24d6aa8083741a", func := "saltern/salternlaw04.MacKeys", spec := "macKeys", apart := false, narrowed := true }
def MacKeysUptoSaid : Prop := macKeysUptoRow.holds Try.pinned (OpenSpec.upto macKeysSpec)

/-- 'salternlaw04.MacSums', WHERE WHAT IT READS IS OF BULK AT MOST 1048576: true; the input reads as it did. -/
def macSumsUptoRow : OpenClaim := { program := "ytjaakhjfpigdfaa", sum := "e441b25e08071db7ef0fa66efd322891c889dc3de5de883c5f24d6aa8083741a", func := "saltern/salternlaw04.MacSums", spec := "macSums", apart := false, narrowed := true }
def MacSumsUptoSaid : Prop := macSumsUptoRow.holds Try.pinned (OpenSpec.upto macSumsSpec)

/-- 'salternlaw04.MacSame', WHERE WHAT IT READS IS OF BULK AT MOST 1048576: true; the input reads as it did. -/
def macSameUptoRow : OpenClaim := { program := "ytjaakhjfpigdfaa", sum := "e441b25e08071db7ef0fa66efd322891c889dc3de5de883c5f24d6aa8083741a", func := "saltern/salternlaw04.MacSame", spec := "macSame", apart := false, narrowed := true }
def MacSameUptoSaid : Prop := macSameUptoRow.holds Try.pinned (OpenSpec.upto macSameSpec)

/-- 'salternlaw04.MacSeals', WHERE WHAT IT READS IS OF BULK AT MOST 1048576: true; the input reads as it did. -/
def macSealsUptoRow : OpenClaim := { program := "ytjaakhjfpigdfaa", sum := "e441b25e08071db7ef0fa66efd322891c889dc3de5de883c5f24d6aa8083741a", func := "saltern/salternlaw04.MacSeals", spec := "macSeals", apart := false, narrowed := true }
def MacSealsUptoSaid : Prop := macSealsUptoRow.holds Try.pinned (OpenSpec.upto macSealsSpec)

/-- 'salternlaw04.MacBack', WHERE WHAT IT READS IS OF BULK AT MOST 1048576: true; the input reads as it did. -/
def macBackUptoRow : OpenClaim := { program := "ytjaakhjfpigdfaa", sum := "e441b25e08071db7ef0fa66efd322891c889dc3de5de883c5f24d6aa8083741a", func := "saltern/salternlaw04.MacBack", spec := "macBack", apart := false, narrowed := true }
def MacBackUptoSaid : Prop := macBackUptoRow.holds Try.pinned (OpenSpec.upto macBackSpec)

/-- 'salternlaw04.MacNobody', WHERE WHAT IT READS IS OF BULK AT MOST 1048576: true; the input reads as it did. -/
def macNobodyUptoRow : OpenClaim := { program := "ytjaakhjfpigdfaa", sum := "e441b25e08071db7ef0fa66efd322891c889dc3de5de883c5f24d6aa8083741a", func := "saltern/salternlaw04.MacNobody", spec := "macNobody", apart := false, narrowed := true }
def MacNobodyUptoSaid : Prop := macNobodyUptoRow.holds Try.pinned (OpenSpec.upto macNobodySpec)

/-- 'salternlaw04.MacWrites', WHERE WHAT IT READS IS OF BULK AT MOST 1048576: true; the input reads as it did. -/
def macWritesUptoRow : OpenClaim := { program := "ytjaakhjfpigdfaa", sum := "e441b25e08071db7ef0fa66efd322891c889dc3de5de883c5f24d6aa8083741a", func := "saltern/salternlaw04.MacWrites", spec := "macWrites", apart := false, narrowed := true }
def MacWritesUptoSaid : Prop := macWritesUptoRow.holds Try.pinned (OpenSpec.upto macWritesSpec)

/-- 'salternlaw04.MacPieces', WHERE WHAT IT READS IS OF BULK AT MOST 1048576: true; the input reads as it did. -/
def macPiecesUptoRow : OpenClaim := { program := "ytjaakhjfpigdfaa", sum := "e441b25e08071db7ef0fa66efd322891c889dc3de5de883c5f24d6aa8083741a", func := "saltern/salternlaw04.MacPieces", spec := "macPieces", apart := false, narrowed := true }
def MacPiecesUptoSaid : Prop := macPiecesUptoRow.holds Try.pinned (OpenSpec.upto macPiecesSpec)

/-- 'salternlaw18.FrameWrites', WHERE WHAT IT READS IS OF BULK AT MOST 1048576: true; the input reads as it did. -/
def frameWritesUptoRow : OpenClaim := { program := "ytjaakhjfpigdfaa", sum := "e441b25e08071db7ef0fa66efd322891c889dc3de5de883c5f24d6aa8083741a", func := "saltern/salternlaw18.FrameWrites", spec := "frameWrites", unfollowed := true, recurses := true, apart := false, narrowed := true }
def FrameWritesUptoSaid : Prop := frameWritesUptoRow.holds Try.pinned (OpenSpec.upto frameWritesSpec)

/-- 'salternlaw18.FrameReads', WHERE WHAT IT READS IS OF BULK AT MOST 1048576: true; the input reads as it did. -/
def frameReadsUptoRow : OpenClaim := { program := "ytjaakhjfpigdfaa", sum := "e441b25e08071db7ef0fa66efd322891c889dc3de5de883c5f24d6aa8083741a", func := "saltern/salternlaw18.FrameReads", spec := "frameReads", unfollowed := true, recurses := true, apart := false, narrowed := true }
def FrameReadsUptoSaid : Prop := frameReadsUptoRow.holds Try.pinned (OpenSpec.upto frameReadsSpec)

/-- 'salternlaw18.FrameSealed', WHERE WHAT IT READS IS OF BULK AT MOST 1048576: true; the input reads as it did. -/
def frameSealedUptoRow : OpenClaim := { program := "ytjaakhjfpigdfaa", sum := "e441b25e08071db7ef0fa66efd322891c889dc3de5de883c5f24d6aa8083741a", func := "saltern/salternlaw18.FrameSealed", spec := "frameSealed", unfollowed := true, recurses := true, apart := false, narrowed := true }
def FrameSealedUptoSaid : Prop := frameSealedUptoRow.holds Try.pinned (OpenSpec.upto frameSealedSpec)

/-- 'salternlaw18.FrameMeets', WHERE WHAT IT READS IS OF BULK AT MOST 1048576: true; the input reads as it did. -/
def frameMeetsUptoRow : OpenClaim := { program := "ytjaakhjfpigdfaa", sum := "e441b25e08071db7ef0fa66efd322891c889dc3de5de883c5f24d6aa8083741a", func := "saltern/salternlaw18.FrameMeets", spec := "frameMeets", unfollowed := true, recurses := true, apart := false, narrowed := true }
def FrameMeetsUptoSaid : Prop := frameMeetsUptoRow.holds Try.pinned (OpenSpec.upto frameMeetsSpec)

/-- 'salternlaw18.FrameBack', WHERE WHAT IT READS IS OF BULK AT MOST 1048576: true; the input reads as it did. -/
def frameBackUptoRow : OpenClaim := { program := "ytjaakhjfpigdfaa", sum := "e441b25e08071db7ef0fa66efd322891c889dc3de5de883c5f24d6aa8083741a", func := "saltern/salternlaw18.FrameBack", spec := "frameBack", unfollowed := true, recurses := true, apart := false, narrowed := true }
def FrameBackUptoSaid : Prop := frameBackUptoRow.holds Try.pinned (OpenSpec.upto frameBackSpec)

/-- 'salternlaw18.FrameForged', WHERE WHAT IT READS IS OF BULK AT MOST 1048576: true; the input reads as it did. -/
def frameForgedUptoRow : OpenClaim := { program := "ytjaakhjfpigdfaa", sum := "e441b25e08071db7ef0fa66efd322891c889dc3de5de883c5f24d6aa8083741a", func := "saltern/salternlaw18.FrameForged", spec := "frameForged", unfollowed := true, recurses := true, apart := false, narrowed := true }
def FrameForgedUptoSaid : Prop := frameForgedUptoRow.holds Try.pinned (OpenSpec.upto frameForgedSpec)

end Rows
end Go.Proofs.Ytjaakhjfpigdfaa
