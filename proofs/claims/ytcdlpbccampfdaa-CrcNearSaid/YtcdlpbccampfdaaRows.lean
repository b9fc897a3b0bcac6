/-
  No cell of these rows narrows 'for every input' (looked for: loops, veiled, ifaces, maps, wideKeys, modest, calm, conditions, laid).
  DERIVED. THE GIVEN ROWS OF THIS SEAT. 6 by the template 'for every input the law returns true; each argument reads behind the call as it read before'; 0 by the template 'total and deterministic' (their statements: YtcdlpbccampfdaaTotals.lean).
  GIVEN WITH THE SEED: the statements are not yours to turn. If you find one false, say at which input.
  Laid BY PROGRAM, IN A SANDBOX (cutbox-rows.mjs): the forced cells as the released guide's own fill.sh prints them over the translation 4d4c84bbf43d7f4b… (all of the seat's roots in one cut). By AI agents, Wed Nov 11 2026. No macro, syntax, notation, axiom, sorry.
-/
import Derived.Test.YtcdlpbccampfdaaChecked
import GoSem.Claim
import GoSem.ClaimJoined
import GoSem.ClaimMapViews
import Derived.JoinedTies
import Derived.KernelRfl
namespace Go.Proofs.Ytcdlpbccampfdaa
/- THE CELL 'sum', in the pinned program and in every row, IS THE sha256 OF THE DUMP (.gsa) THAT YtcdlpbccampfdaaProg.lean LOADS. Nothing in Lean hashes anything: it is a label: what it is worth is what the hold of that sum in a sandbox is worth. -/
noncomputable def Try.pinned : Pinned := { name := "ytcdlpbccampfdaa", sum := "4d4c84bbf43d7f4bd869a47117accfb7adf6a0df09483c14bca5dfbf6cd5236c", checked := Try.checked }
namespace Rows
def none {H : Type} : Left H := { results := [], args := [] }

/-- 'salternlaw02.CrcAdds': WHATEVER THE INPUT: true; the input reads as it did. -/
def crcAddsSpec : ChangeSpec := { name := "crcAdds", fn := fun _ => fun
  | [d1, d2, d3, d4] => { results := [.lit (.bool true)], args := [d1, d2, d3, d4] }
  | _ => none }
def crcAddsRow : OpenClaim := { program := "ytcdlpbccampfdaa", sum := "4d4c84bbf43d7f4bd869a47117accfb7adf6a0df09483c14bca5dfbf6cd5236c", func := "saltern/salternlaw02.CrcAdds", spec := "crcAdds", apart := false }
def CrcAddsSaid : Prop := crcAddsRow.holds Try.pinned (OpenSpec.ofChange crcAddsSpec)

/-- ITS FALSE NEIGHBOUR: 'it returns false'. Refute it at one input. -/
def crcAddsWrong : ChangeSpec := { name := "crcAdds", fn := fun _ => fun
  | [d1, d2, d3, d4] => { results := [.lit (.bool false)], args := [d1, d2, d3, d4] }
  | _ => none }
def CrcAddsWrongFalsely : Prop := crcAddsRow.holds Try.pinned (OpenSpec.ofChange crcAddsWrong)

/-- 'salternlaw02.CrcPieces': WHATEVER THE INPUT: true; the input reads as it did. -/
def crcPiecesSpec : ChangeSpec := { name := "crcPieces", fn := fun _ => fun
  | [d1, d2] => { results := [.lit (.bool true)], args := [d1, d2] }
  | _ => none }
def crcPiecesRow : OpenClaim := { program := "ytcdlpbccampfdaa", sum := "4d4c84bbf43d7f4bd869a47117accfb7adf6a0df09483c14bca5dfbf6cd5236c", func := "saltern/salternlaw02.CrcPieces", spec := "crcPieces", apart := false }
def CrcPiecesSaid : Prop := crcPiecesRow.holds Try.pinned (OpenSpec.ofChange crcPiecesSpec)

/-- ITS FALSE NEIGHBOUR: 'it returns false'. Refute it at one input. -/
def crcPiecesWrong : ChangeSpec := { name := "crcPieces", fn := fun _ => fun
  | [d1, d2] => { results := [.lit (.bool false)], args := [d1, d2] }
  | _ => none }
def CrcPiecesWrongFalsely : Prop := crcPiecesRow.holds Try.pinned (OpenSpec.ofChange crcPiecesWrong)

/-- 'salternlaw02.CrcNear': WHATEVER THE INPUT: true; the input reads as it did. -/
def crcNearSpec : ChangeSpec := { name := "crcNear", fn := fun _ => fun
  | [d1, d2, d3] => { results := [.lit (.bool true)], args := [d1, d2, d3] }
  | _ => none }
def crcNearRow : OpenClaim := { program := "ytcdlpbccampfdaa", sum := "4d4c84bbf43d7f4bd869a47117accfb7adf6a0df09483c14bca5dfbf6cd5236c", func := "saltern/salternlaw02.CrcNear", spec := "crcNear", apart := false }
def CrcNearSaid : Prop := crcNearRow.holds Try.pinned (OpenSpec.ofChange crcNearSpec)

/-- ITS FALSE NEIGHBOUR: 'it returns false'. Refute it at one input. -/
def crcNearWrong : ChangeSpec := { name := "crcNear", fn := fun _ => fun
  | [d1, d2, d3] => { results := [.lit (.bool false)], args := [d1, d2, d3] }
  | _ => none }
def CrcNearWrongFalsely : Prop := crcNearRow.holds Try.pinned (OpenSpec.ofChange crcNearWrong)

/-- 'salternlaw02.CrcCats': WHATEVER THE INPUT: true; the input reads as it did. -/
def crcCatsSpec : ChangeSpec := { name := "crcCats", fn := fun _ => fun
  | [d1, d2] => { results := [.lit (.bool true)], args := [d1, d2] }
  | _ => none }
def crcCatsRow : OpenClaim := { program := "ytcdlpbccampfdaa", sum := "4d4c84bbf43d7f4bd869a47117accfb7adf6a0df09483c14bca5dfbf6cd5236c", func := "saltern/salternlaw02.CrcCats", spec := "crcCats", apart := false }
def CrcCatsSaid : Prop := crcCatsRow.holds Try.pinned (OpenSpec.ofChange crcCatsSpec)

/-- ITS FALSE NEIGHBOUR: 'it returns false'. Refute it at one input. -/
def crcCatsWrong : ChangeSpec := { name := "crcCats", fn := fun _ => fun
  | [d1, d2] => { results := [.lit (.bool false)], args := [d1, d2] }
  | _ => none }
def CrcCatsWrongFalsely : Prop := crcCatsRow.holds Try.pinned (OpenSpec.ofChange crcCatsWrong)

/-- 'salternlaw02.CrcForged': WHATEVER THE INPUT: true; the input reads as it did. -/
def crcForgedSpec : ChangeSpec := { name := "crcForged", fn := fun _ => fun
  | [d1, d2] => { results := [.lit (.bool true)], args := [d1, d2] }
  | _ => none }
def crcForgedRow : OpenClaim := { program := "ytcdlpbccampfdaa", sum := "4d4c84bbf43d7f4bd869a47117accfb7adf6a0df09483c14bca5dfbf6cd5236c", func := "saltern/salternlaw02.CrcForged", spec := "crcForged", apart := false }
def CrcForgedSaid : Prop := crcForgedRow.holds Try.pinned (OpenSpec.ofChange crcForgedSpec)

/-- ITS FALSE NEIGHBOUR: 'it returns false'. Refute it at one input. -/
def crcForgedWrong : ChangeSpec := { name := "crcForged", fn := fun _ => fun
  | [d1, d2] => { results := [.lit (.bool false)], args := [d1, d2] }
  | _ => none }
def CrcForgedWrongFalsely : Prop := crcForgedRow.holds Try.pinned (OpenSpec.ofChange crcForgedWrong)

/-- 'salternlaw02.CrcBacks': WHATEVER THE INPUT: true; the input reads as it did. -/
def crcBacksSpec : ChangeSpec := { name := "crcBacks", fn := fun _ => fun
  | [d1, d2, d3] => { results := [.lit (.bool true)], args := [d1, d2, d3] }
  | _ => none }
def crcBacksRow : OpenClaim := { program := "ytcdlpbccampfdaa", sum := "4d4c84bbf43d7f4bd869a47117accfb7adf6a0df09483c14bca5dfbf6cd5236c", func := "saltern/salternlaw02.CrcBacks", spec := "crcBacks", apart := false }
def CrcBacksSaid : Prop := crcBacksRow.holds Try.pinned (OpenSpec.ofChange crcBacksSpec)

/-- ITS FALSE NEIGHBOUR: 'it returns false'. Refute it at one input. -/
def crcBacksWrong : ChangeSpec := { name := "crcBacks", fn := fun _ => fun
  | [d1, d2, d3] => { results := [.lit (.bool false)], args := [d1, d2, d3] }
  | _ => none }
def CrcBacksWrongFalsely : Prop := crcBacksRow.holds Try.pinned (OpenSpec.ofChange crcBacksWrong)

/- THE SECOND FORM. 'bulk': how many values and letters a reading holds, each counted each time it is reached (what is shared counts as often as it is met; a slice's spare places count too). A statement '..UptoSaid' is the law's where the arguments, and the package variables that the reading takes, are together of bulk at most 1048576: NARROWER than '..Said'. Prove '..Said' where nothing that the law and all that it calls make is longer than what came in: it says more and counts as full. Else prove '..UptoSaid'. A law counts once. -/
mutual
def uptoBulk {H : Type} : DataW H → Nat
  | .lit (.string bytes) => bytes.length + 1
  | .lit _ => 1
  | .nil => 1
  | .ptr d => uptoBulk d + 1
  | .slice elems spare => uptoBulkAll elems + uptoBulkAll spare + 1
  | .agg parts => uptoBulkAll parts + 1
  | .iface _ d => uptoBulk d + 1
  | .map entries => uptoBulkEntries entries + 1
  | .held _ => 1
def uptoBulkAll {H : Type} : List (DataW H) → Nat
  | [] => 0
  | d :: r => uptoBulk d + uptoBulkAll r
def uptoBulkEntries {H : Type} : List (Lit × DataW H) → Nat
  | [] => 0
  | x :: r => uptoBulkEntry x + uptoBulkEntries r
def uptoBulkEntry {H : Type} : Lit × DataW H → Nat
  | (.string bytes, d) => bytes.length + uptoBulk d + 1
  | (_, d) => uptoBulk d + 1
 end
def uptoSmall : (H : Type) → List (DataW H) → Bool := fun _ ds => decide (uptoBulkAll ds ≤ 1048576)
def OpenSpec.upto (s : _root_.Go.ChangeSpec) : _root_.Go.OpenSpec := { _root_.Go.OpenSpec.ofChange s with cond := some uptoSmall }

/-- 'salternlaw02.CrcAdds', WHERE WHAT IT READS IS OF BULK AT MOST 1048576: true; the input reads as it did. -/
def crcAddsUptoRow : OpenClaim := { program := "ytcdlpbccampfdaa", sum := "4d4c84bbf43d7f4bd869a47117accfb7adf6a0df09483c14bca5dfbf6cd5236c", func := "saltern/salternlaw02.CrcAdds", spec := "crcAdds", apart := false, narrowed := true }
def CrcAddsUptoSaid : Prop := crcAddsUptoRow.holds Try.pinned (OpenSpec.upto crcAddsSpec)

/-- 'salternlaw02.CrcPieces', WHERE WHAT IT READS IS OF BULK AT MOST 1048576: true; the input reads as it did. -/
def crcPiecesUptoRow : OpenClaim := { program := "ytcdlpbccampfdaa", sum := "4d4c84bbf43d7f4bd869a47117accfb7adf6a0df09483c14bca5dfbf6cd5236c", func := "saltern/salternlaw02.CrcPieces", spec := "crcPieces", apart := false, narrowed := true }
def CrcPiecesUptoSaid : Prop := crcPiecesUptoRow.holds Try.pinned (OpenSpec.upto crcPiecesSpec)

/-- 'salternlaw02.CrcNear', WHERE WHAT IT READS IS OF BULK AT MOST 1048576: true; the input reads as it did. -/
def crcNearUptoRow : OpenClaim := { program := "ytcdlpbccampfdaa", sum := "4d4c84bbf43d7f4bd869a47117accfb7adf6a0df09483c14bca5dfbf6cd5236c", func := "saltern/salternlaw02.CrcNear", spec := "crcNear", apart := false, narrowed := true }
def CrcNearUptoSaid : Prop := crcNearUptoRow.holds Try.pinned (OpenSpec.upto crcNearSpec)

/-- 'salternlaw02.CrcCats', WHERE WHAT IT READS IS OF BULK AT MOST 1048576: true; the input reads as it did. -/
def crcCatsUptoRow : OpenClaim := { program := "ytcdlpbccampfdaa", sum := "4d4c84bbf43d7f4bd869a47117accfb7adf6a0df09483c14bca5dfbf6cd5236c", func := "saltern/salternlaw02.CrcCats", spec := "crcCats", apart := false, narrowed := true }
def CrcCatsUptoSaid : Prop := crcCatsUptoRow.holds Try.pinned (OpenSpec.upto crcCatsSpec)

/-- 'salternlaw02.CrcForged', WHERE WHAT IT READS IS OF BULK AT MOST 1048576: true; the input reads as it did. -/
def crcForgedUptoRow : OpenClaim := { program := "ytcdlpbccampfdaa", sum := "4d4c84bbf43d7f4bd869a47117accfb7adf6a0df09483c14bca5dfbf6cd5236c", func := "saltern/salternlaw02.CrcForged", spec := "crcForged", apart := false, narrowed := true }
def CrcForgedUptoSaid : Prop := crcForgedUptoRow.holds Try.pinned (OpenSpec.upto crcForgedSpec)

/-- 'salternlaw02.CrcBacks', WHERE WHAT IT READS IS OF BULK AT MOST 1048576: true; the input reads as it did. -/
def crcBacksUptoRow : OpenClaim := { program := "ytcdlpbccampfdaa", sum := "4d4c84bbf43d7f4bd869a47117accfb7adf6a0df09483c14bca5dfbf6cd5236c", func := "saltern/salternlaw02.CrcBacks", spec := "crcBacks", apart := false, narrowed := true }
def CrcBacksUptoSaid : Prop := crcBacksUptoRow.holds Try.pinned (OpenSpec.upto crcBacksSpec)

end Rows
end Go.Proofs.Ytcdlpbccampfdaa
