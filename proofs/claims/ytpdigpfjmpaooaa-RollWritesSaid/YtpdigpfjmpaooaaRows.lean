/-
  No cell of these rows narrows 'for every input' (looked for: loops, veiled, ifaces, maps, wideKeys, modest, calm, conditions, laid).
  DERIVED. THE GIVEN ROWS OF THIS SEAT. 7 by the template 'for every input the law returns true; each argument reads behind the call as it read before'; 0 by the template 'total and deterministic' (their statements: YtpdigpfjmpaooaaTotals.lean).
  GIVEN WITH THE SEED: the statements are not yours to turn. If you find one false, say at which input.
  Laid BY PROGRAM, IN A SANDBOX (cutbox-rows.mjs): the forced cells as the released guide's own fill.sh prints them over the translation 482f52782bd59987… (all of the seat's roots in one cut). By AI agents, Wed Nov 11 2026. No macro, syntax, notation, axiom, sorry.
-/
import Derived.Test.YtpdigpfjmpaooaaChecked
import GoSem.Claim
import GoSem.ClaimJoined
import GoSem.ClaimMapViews
import Derived.JoinedTies
import Derived.KernelRfl
namespace Go.Proofs.Ytpdigpfjmpaooaa
/- THE CELL 'sum', in the pinned program and in every row, IS THE sha256 OF THE DUMP (.gsa) THAT YtpdigpfjmpaooaaProg.lean LOADS. Nothing in Lean hashes anything: it is a label: what it is worth is what the hold of that sum in a sandbox is worth. -/
noncomputable def Try.pinned : Pinned := { name := "ytpdigpfjmpaooaa", sum := "482f52782bd599877d5a8f031495eec0d664d63c445e987f7d7ecbaa1a99462a", checked := Try.checked }
namespace Rows
def none {H : Type} : Left H := { results := [], args := [] }

/-- 'salternlaw08.RollCuts': WHATEVER THE INPUT: true; the input reads as it did. -/
def rollCutsSpec : ChangeSpec := { name := "rollCuts", fn := fun _ => fun
  | [d1, d2] => { results := [.lit (.bool true)], args := [d1, d2] }
  | _ => none }
def rollCutsRow : OpenClaim := { program := "ytpdigpfjmpaooaa", sum := "482f52782bd599877d5a8f031495eec0d664d63c445e987f7d7ecbaa1a99462a", func := "saltern/salternlaw08.RollCuts", spec := "rollCuts", unfollowed := true, recurses := true, apart := false }
def RollCutsSaid : Prop := rollCutsRow.holds Try.pinned (OpenSpec.ofChange rollCutsSpec)

/-- ITS FALSE NEIGHBOUR: 'it returns false'. Refute it at one input. -/
def rollCutsWrong : ChangeSpec := { name := "rollCuts", fn := fun _ => fun
  | [d1, d2] => { results := [.lit (.bool false)], args := [d1, d2] }
  | _ => none }
def RollCutsWrongFalsely : Prop := rollCutsRow.holds Try.pinned (OpenSpec.ofChange rollCutsWrong)

/-- 'salternlaw08.RollSizes': WHATEVER THE INPUT: true; the input reads as it did. -/
def rollSizesSpec : ChangeSpec := { name := "rollSizes", fn := fun _ => fun
  | [d1, d2] => { results := [.lit (.bool true)], args := [d1, d2] }
  | _ => none }
def rollSizesRow : OpenClaim := { program := "ytpdigpfjmpaooaa", sum := "482f52782bd599877d5a8f031495eec0d664d63c445e987f7d7ecbaa1a99462a", func := "saltern/salternlaw08.RollSizes", spec := "rollSizes", unfollowed := true, recurses := true, apart := false }
def RollSizesSaid : Prop := rollSizesRow.holds Try.pinned (OpenSpec.ofChange rollSizesSpec)

/-- ITS FALSE NEIGHBOUR: 'it returns false'. Refute it at one input. -/
def rollSizesWrong : ChangeSpec := { name := "rollSizes", fn := fun _ => fun
  | [d1, d2] => { results := [.lit (.bool false)], args := [d1, d2] }
  | _ => none }
def RollSizesWrongFalsely : Prop := rollSizesRow.holds Try.pinned (OpenSpec.ofChange rollSizesWrong)

/-- 'salternlaw08.RollGears': WHATEVER THE INPUT: true; the input reads as it did. -/
def rollGearsSpec : ChangeSpec := { name := "rollGears", fn := fun _ => fun
  | [d1, d2, d3, d4] => { results := [.lit (.bool true)], args := [d1, d2, d3, d4] }
  | _ => none }
def rollGearsRow : OpenClaim := { program := "ytpdigpfjmpaooaa", sum := "482f52782bd599877d5a8f031495eec0d664d63c445e987f7d7ecbaa1a99462a", func := "saltern/salternlaw08.RollGears", spec := "rollGears", unfollowed := true, recurses := true, apart := false }
def RollGearsSaid : Prop := rollGearsRow.holds Try.pinned (OpenSpec.ofChange rollGearsSpec)

/-- ITS FALSE NEIGHBOUR: 'it returns false'. Refute it at one input. -/
def rollGearsWrong : ChangeSpec := { name := "rollGears", fn := fun _ => fun
  | [d1, d2, d3, d4] => { results := [.lit (.bool false)], args := [d1, d2, d3, d4] }
  | _ => none }
def RollGearsWrongFalsely : Prop := rollGearsRow.holds Try.pinned (OpenSpec.ofChange rollGearsWrong)

/-- 'salternlaw08.RollPieces': WHATEVER THE INPUT: true; the input reads as it did. -/
def rollPiecesSpec : ChangeSpec := { name := "rollPieces", fn := fun _ => fun
  | [d1, d2, d3] => { results := [.lit (.bool true)], args := [d1, d2, d3] }
  | _ => none }
def rollPiecesRow : OpenClaim := { program := "ytpdigpfjmpaooaa", sum := "482f52782bd599877d5a8f031495eec0d664d63c445e987f7d7ecbaa1a99462a", func := "saltern/salternlaw08.RollPieces", spec := "rollPieces", unfollowed := true, recurses := true, apart := false }
def RollPiecesSaid : Prop := rollPiecesRow.holds Try.pinned (OpenSpec.ofChange rollPiecesSpec)

/-- ITS FALSE NEIGHBOUR: 'it returns false'. Refute it at one input. -/
def rollPiecesWrong : ChangeSpec := { name := "rollPieces", fn := fun _ => fun
  | [d1, d2, d3] => { results := [.lit (.bool false)], args := [d1, d2, d3] }
  | _ => none }
def RollPiecesWrongFalsely : Prop := rollPiecesRow.holds Try.pinned (OpenSpec.ofChange rollPiecesWrong)

/-- 'salternlaw08.RollNobody': WHATEVER THE INPUT: true; the input reads as it did. -/
def rollNobodySpec : ChangeSpec := { name := "rollNobody", fn := fun _ => fun
  | [d] => { results := [.lit (.bool true)], args := [d] }
  | _ => none }
def rollNobodyRow : OpenClaim := { program := "ytpdigpfjmpaooaa", sum := "482f52782bd599877d5a8f031495eec0d664d63c445e987f7d7ecbaa1a99462a", func := "saltern/salternlaw08.RollNobody", spec := "rollNobody", unfollowed := true, recurses := true, apart := false }
def RollNobodySaid : Prop := rollNobodyRow.holds Try.pinned (OpenSpec.ofChange rollNobodySpec)

/-- ITS FALSE NEIGHBOUR: 'it returns false'. Refute it at one input. -/
def rollNobodyWrong : ChangeSpec := { name := "rollNobody", fn := fun _ => fun
  | [d] => { results := [.lit (.bool false)], args := [d] }
  | _ => none }
def RollNobodyWrongFalsely : Prop := rollNobodyRow.holds Try.pinned (OpenSpec.ofChange rollNobodyWrong)

/-- 'salternlaw08.RollWrites': WHATEVER THE INPUT: true; the input reads as it did. -/
def rollWritesSpec : ChangeSpec := { name := "rollWrites", fn := fun _ => fun
  | [d1, d2, d3] => { results := [.lit (.bool true)], args := [d1, d2, d3] }
  | _ => none }
def rollWritesRow : OpenClaim := { program := "ytpdigpfjmpaooaa", sum := "482f52782bd599877d5a8f031495eec0d664d63c445e987f7d7ecbaa1a99462a", func := "saltern/salternlaw08.RollWrites", spec := "rollWrites", unfollowed := true, recurses := true, apart := false }
def RollWritesSaid : Prop := rollWritesRow.holds Try.pinned (OpenSpec.ofChange rollWritesSpec)

/-- ITS FALSE NEIGHBOUR: 'it returns false'. Refute it at one input. -/
def rollWritesWrong : ChangeSpec := { name := "rollWrites", fn := fun _ => fun
  | [d1, d2, d3] => { results := [.lit (.bool false)], args := [d1, d2, d3] }
  | _ => none }
def RollWritesWrongFalsely : Prop := rollWritesRow.holds Try.pinned (OpenSpec.ofChange rollWritesWrong)

/-- 'salternlaw08.RollAlike': WHATEVER THE INPUT: true; the input reads as it did. -/
def rollAlikeSpec : ChangeSpec := { name := "rollAlike", fn := fun _ => fun
  | [d1, d2, d3, d4] => { results := [.lit (.bool true)], args := [d1, d2, d3, d4] }
  | _ => none }
def rollAlikeRow : OpenClaim := { program := "ytpdigpfjmpaooaa", sum := "482f52782bd599877d5a8f031495eec0d664d63c445e987f7d7ecbaa1a99462a", func := "saltern/salternlaw08.RollAlike", spec := "rollAlike", unfollowed := true, recurses := true, apart := false }
def RollAlikeSaid : Prop := rollAlikeRow.holds Try.pinned (OpenSpec.ofChange rollAlikeSpec)

/-- ITS FALSE NEIGHBOUR: 'it returns false'. Refute it at one input. -/
def rollAlikeWrong : ChangeSpec := { name := "rollAlike", fn := fun _ => fun
  | [d1, d2, d3, d4] => { results := [.lit (.bool false)], args := [d1, d2, d3, d4] }
  | _ => none }
def RollAlikeWrongFalsely : Prop := rollAlikeRow.holds Try.pinned (OpenSpec.ofChange rollAlikeWrong)

/- THE SECOND FORM. 'bulk': how many values and letters a reading holds, each counted each time it is reached (what is shared counts as often as it is met; a slice's spare places count too). A statement '..UptoSaid' is the law's where the arguments, and the package variables that the reading takes, are together of bulk at most 1048576: NARROWER than '..Said'. Prove '..Said' where nothing that the law and all that it calls make is longer than what came in: it says more and counts as full. Else prove '..UptoSaid'. A law counts once. -/
mutual
def uptoBulk {H : Type} : DataW H → Nat
  | .lit (.string bytes) => bytes.length + 1
  | .lit _ => 1
  | .nil => 1
  | .ptr d => uptoBulk d + 1
  | .slice elems spare => uptoBulkAll elems + uptoBulkAll spare + 1
  | .agg parts => uptoBulkAll parts + 1
  | .iface _ d => uptoBulk d + 1
  | .map entries => uptoBulkEntries entries + 1
  | .held _ => 1
def uptoBulkAll {H : Type} : List (DataW H) → Nat
  | [] => 0
  | d :: r => uptoBulk d + uptoBulkAll r
def uptoBulkEntries {H : Type} : List (Lit × DataW H) → Nat
  | [] => 0
  | x :: r => uptoBulkEntry x + uptoBulkEntries r
def uptoBulkEntry {H : Type} : Lit × DataW H → Nat
  | (.string bytes, d) => bytes.length + uptoBulk d + 1
  | (_, d) => uptoBulk d + 1
 end
def uptoSmall : (H : Type) → List (DataW H) → Bool := fun _ ds => decide (uptoBulkAll ds ≤ 1048576)
def OpenSpec.upto (s : _root_.Go.ChangeSpec) : _root_.Go.OpenSpec := { _root_.Go.OpenSpec.ofChange s with cond := some uptoSmall }

/-- 'salternlaw08.RollCuts', WHERE WHAT IT READS IS OF BULK AT MOST 1048576: true; the input reads as it did. -/
def rollCutsUptoRow : OpenClaim := { program := "ytpdigpfjmpaooaa", sum := "482f52782bd599877d5a8f031495eec0d664d63c445e987f7d7ecbaa1a99462a", func := "saltern/salternlaw08.RollCuts", spec := "rollCuts", unfollowed := true, recurses := true, apart := false, narrowed := true }
def RollCutsUptoSaid : Prop := rollCutsUptoRow.holds Try.pinned (OpenSpec.upto rollCutsSpec)

/-- 'salternlaw08.RollSizes', WHERE WHAT IT READS IS OF BULK AT MOST 1048576: true; the input reads as it did. -/
def rollSizesUptoRow : OpenClaim := { program := "ytpdigpfjmpaooaa", sum := "482f52782bd599877d5a8f031495eec0d664d63c445e987f7d7ecbaa1a99462a", func := "saltern/salternlaw08.RollSizes", spec := "rollSizes", unfollowed := true, recurses := true, apart := false, narrowed := true }
def RollSizesUptoSaid : Prop := rollSizesUptoRow.holds Try.pinned (OpenSpec.upto rollSizesSpec)

/-- 'salternlaw08.RollGears', WHERE WHAT IT READS IS OF BULK AT MOST 1048576: true; the input reads as it did. -/
def rollGearsUptoRow : OpenClaim := { program := "ytpdigpfjmpaooaa", sum := "482f52782bd599877d5a8f031495eec0d664d63c445e987f7d7ecbaa1a99462a", func := "saltern/salternlaw08.RollGears", spec := "rollGears", unfollowed := true, recurses := true, apart := false, narrowed := true }
def RollGearsUptoSaid : Prop := rollGearsUptoRow.holds Try.pinned (OpenSpec.upto rollGearsSpec)

/-- 'salternlaw08.RollPieces', WHERE WHAT IT READS IS OF BULK AT MOST 1048576: true; the input reads as it did. -/
def rollPiecesUptoRow : OpenClaim := { program := "ytpdigpfjmpaooaa", sum := "482f52782bd599877d5a8f031495eec0d664d63c445e987f7d7ecbaa1a99462a", func := "saltern/salternlaw08.RollPieces", spec := "rollPieces", unfollowed := true, recurses := true, apart := false, narrowed := true }
def RollPiecesUptoSaid : Prop := rollPiecesUptoRow.holds Try.pinned (OpenSpec.upto rollPiecesSpec)

/-- 'salternlaw08.RollNobody', WHERE WHAT IT READS IS OF BULK AT MOST 1048576: true; the input reads as it did. -/
def rollNobodyUptoRow : OpenClaim := { program := "ytpdigpfjmpaooaa", sum := "482f52782bd599877d5a8f031495eec0d664d63c445e987f7d7ecbaa1a99462a", func := "saltern/salternlaw08.RollNobody", spec := "rollNobody", unfollowed := true, recurses := true, apart := false, narrowed := true }
def RollNobodyUptoSaid : Prop := rollNobodyUptoRow.holds Try.pinned (OpenSpec.upto rollNobodySpec)

/-- 'salternlaw08.RollWrites', WHERE WHAT IT READS IS OF BULK AT MOST 1048576: true; the input reads as it did. -/
def rollWritesUptoRow : OpenClaim := { program := "ytpdigpfjmpaooaa", sum := "482f52782bd599877d5a8f031495eec0d664d63c445e987f7d7ecbaa1a99462a", func := "saltern/salternlaw08.RollWrites", spec := "rollWrites", unfollowed := true, recurses := true, apart := false, narrowed := true }
def RollWritesUptoSaid : Prop := rollWritesUptoRow.holds Try.pinned (OpenSpec.upto rollWritesSpec)

/-- 'salternlaw08.RollAlike', WHERE WHAT IT READS IS OF BULK AT MOST 1048576: true; the input reads as it did. -/
def rollAlikeUptoRow : OpenClaim := { program := "ytpdigpfjmpaooaa", sum := "482f52782bd599877d5a8f031495eec0d664d63c445e987f7d7ecbaa1a99462a", func := "saltern/salternlaw08.RollAlike", spec := "rollAlike", unfollowed := true, recurses := true, apart := false, narrowed := true }
def RollAlikeUptoSaid : Prop := rollAlikeUptoRow.holds Try.pinned (OpenSpec.upto rollAlikeSpec)

end Rows
end Go.Proofs.Ytpdigpfjmpaooaa
