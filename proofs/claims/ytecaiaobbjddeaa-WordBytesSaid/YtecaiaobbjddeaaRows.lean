/-
  No cell of these rows narrows 'for every input' (looked for: loops, veiled, ifaces, maps, wideKeys, modest, calm, conditions, laid).
  DERIVED. THE GIVEN ROWS OF THIS SEAT. 6 by the template 'for every input the law returns true; each argument reads behind the call as it read before'; 0 by the template 'total and deterministic' (their statements: YtecaiaobbjddeaaTotals.lean).
  GIVEN WITH THE SEED: the statements are not yours to turn. If you find one false, say at which input.
  Laid BY PROGRAM, IN A SANDBOX (cutbox-rows.mjs): the forced cells as the released guide's own fill.sh prints them over the translation c82ac21c681b4878… (all of the seat's roots in one cut). By AI agents, Wed Nov 11 2026. No macro, syntax, notation, axiom, sorry.
-/
import Derived.Test.YtecaiaobbjddeaaChecked
import GoSem.Claim
import GoSem.ClaimJoined
import GoSem.ClaimMapViews
import Derived.JoinedTies
import Derived.KernelRfl
namespace Go.Proofs.Ytecaiaobbjddeaa
/- THE CELL 'sum', in the pinned program and in every row, IS THE sha256 OF THE DUMP (.gsa) THAT YtecaiaobbjddeaaProg.lean LOADS. Nothing in Lean hashes anything: it is a label: what it is worth is what the hold of that sum in a sandbox is worth. -/
noncomputable def Try.pinned : Pinned := { name := "ytecaiaobbjddeaa", sum := "c82ac21c681b4878e51c8aaa162589884b25148b7d427af27edf9fadd8b16fbc", checked := Try.checked }
namespace Rows
def none {H : Type} : Left H := { results := [], args := [] }

/-- 'salternlaw01.WordTurns': WHATEVER THE INPUT: true; the input reads as it did. -/
def wordTurnsSpec : ChangeSpec := { name := "wordTurns", fn := fun _ => fun
  | [d1, d2, d3] => { results := [.lit (.bool true)], args := [d1, d2, d3] }
  | _ => none }
def wordTurnsRow : OpenClaim := { program := "ytecaiaobbjddeaa", sum := "c82ac21c681b4878e51c8aaa162589884b25148b7d427af27edf9fadd8b16fbc", func := "saltern/salternlaw01.WordTurns", spec := "wordTurns", apart := false }
def WordTurnsSaid : Prop := wordTurnsRow.holds Try.pinned (OpenSpec.ofChange wordTurnsSpec)

/-- ITS FALSE NEIGHBOUR: 'it returns false'. Refute it at one input. -/
def wordTurnsWrong : ChangeSpec := { name := "wordTurns", fn := fun _ => fun
  | [d1, d2, d3] => { results := [.lit (.bool false)], args := [d1, d2, d3] }
  | _ => none }
def WordTurnsWrongFalsely : Prop := wordTurnsRow.holds Try.pinned (OpenSpec.ofChange wordTurnsWrong)

/-- 'salternlaw01.WordZigzags': WHATEVER THE INPUT: true; the input reads as it did. -/
def wordZigzagsSpec : ChangeSpec := { name := "wordZigzags", fn := fun _ => fun
  | [d1, d2] => { results := [.lit (.bool true)], args := [d1, d2] }
  | _ => none }
def wordZigzagsRow : OpenClaim := { program := "ytecaiaobbjddeaa", sum := "c82ac21c681b4878e51c8aaa162589884b25148b7d427af27edf9fadd8b16fbc", func := "saltern/salternlaw01.WordZigzags", spec := "wordZigzags", apart := false }
def WordZigzagsSaid : Prop := wordZigzagsRow.holds Try.pinned (OpenSpec.ofChange wordZigzagsSpec)

/-- ITS FALSE NEIGHBOUR: 'it returns false'. Refute it at one input. -/
def wordZigzagsWrong : ChangeSpec := { name := "wordZigzags", fn := fun _ => fun
  | [d1, d2] => { results := [.lit (.bool false)], args := [d1, d2] }
  | _ => none }
def WordZigzagsWrongFalsely : Prop := wordZigzagsRow.holds Try.pinned (OpenSpec.ofChange wordZigzagsWrong)

/-- 'salternlaw01.WordVarints': WHATEVER THE INPUT: true; the input reads as it did. -/
def wordVarintsSpec : ChangeSpec := { name := "wordVarints", fn := fun _ => fun
  | [d1, d2] => { results := [.lit (.bool true)], args := [d1, d2] }
  | _ => none }
def wordVarintsRow : OpenClaim := { program := "ytecaiaobbjddeaa", sum := "c82ac21c681b4878e51c8aaa162589884b25148b7d427af27edf9fadd8b16fbc", func := "saltern/salternlaw01.WordVarints", spec := "wordVarints", apart := false }
def WordVarintsSaid : Prop := wordVarintsRow.holds Try.pinned (OpenSpec.ofChange wordVarintsSpec)

/-- ITS FALSE NEIGHBOUR: 'it returns false'. Refute it at one input. -/
def wordVarintsWrong : ChangeSpec := { name := "wordVarints", fn := fun _ => fun
  | [d1, d2] => { results := [.lit (.bool false)], args := [d1, d2] }
  | _ => none }
def WordVarintsWrongFalsely : Prop := wordVarintsRow.holds Try.pinned (OpenSpec.ofChange wordVarintsWrong)

/-- 'salternlaw01.WordOne': WHATEVER THE INPUT: true; the input reads as it did. -/
def wordOneSpec : ChangeSpec := { name := "wordOne", fn := fun _ => fun
  | [d] => { results := [.lit (.bool true)], args := [d] }
  | _ => none }
def wordOneRow : OpenClaim := { program := "ytecaiaobbjddeaa", sum := "c82ac21c681b4878e51c8aaa162589884b25148b7d427af27edf9fadd8b16fbc", func := "saltern/salternlaw01.WordOne", spec := "wordOne", apart := false }
def WordOneSaid : Prop := wordOneRow.holds Try.pinned (OpenSpec.ofChange wordOneSpec)

/-- ITS FALSE NEIGHBOUR: 'it returns false'. Refute it at one input. -/
def wordOneWrong : ChangeSpec := { name := "wordOne", fn := fun _ => fun
  | [d] => { results := [.lit (.bool false)], args := [d] }
  | _ => none }
def WordOneWrongFalsely : Prop := wordOneRow.holds Try.pinned (OpenSpec.ofChange wordOneWrong)

/-- 'salternlaw01.WordBytes': WHATEVER THE INPUT: true; the input reads as it did. -/
def wordBytesSpec : ChangeSpec := { name := "wordBytes", fn := fun _ => fun
  | [d1, d2, d3, d4] => { results := [.lit (.bool true)], args := [d1, d2, d3, d4] }
  | _ => none }
def wordBytesRow : OpenClaim := { program := "ytecaiaobbjddeaa", sum := "c82ac21c681b4878e51c8aaa162589884b25148b7d427af27edf9fadd8b16fbc", func := "saltern/salternlaw01.WordBytes", spec := "wordBytes", apart := false }
def WordBytesSaid : Prop := wordBytesRow.holds Try.pinned (OpenSpec.ofChange wordBytesSpec)

/-- ITS FALSE NEIGHBOUR: 'it returns false'. Refute it at one input. -/
def wordBytesWrong : ChangeSpec := { name := "wordBytes", fn := fun _ => fun
  | [d1, d2, d3, d4] => { results := [.lit (.bool false)], args := [d1, d2, d3, d4] }
  | _ => none }
def WordBytesWrongFalsely : Prop := wordBytesRow.holds Try.pinned (OpenSpec.ofChange wordBytesWrong)

/-- 'salternlaw01.WordBack': WHATEVER THE INPUT: true; the input reads as it did. -/
def wordBackSpec : ChangeSpec := { name := "wordBack", fn := fun _ => fun
  | [d1, d2, d3, d4, d5, d6] => { results := [.lit (.bool true)], args := [d1, d2, d3, d4, d5, d6] }
  | _ => none }
def wordBackRow : OpenClaim := { program := "ytecaiaobbjddeaa", sum := "c82ac21c681b4878e51c8aaa162589884b25148b7d427af27edf9fadd8b16fbc", func := "saltern/salternlaw01.WordBack", spec := "wordBack", apart := false }
def WordBackSaid : Prop := wordBackRow.holds Try.pinned (OpenSpec.ofChange wordBackSpec)

/-- ITS FALSE NEIGHBOUR: 'it returns false'. Refute it at one input. -/
def wordBackWrong : ChangeSpec := { name := "wordBack", fn := fun _ => fun
  | [d1, d2, d3, d4, d5, d6] => { results := [.lit (.bool false)], args := [d1, d2, d3, d4, d5, d6] }
  | _ => none }
def WordBackWrongFalsely : Prop := wordBackRow.holds Try.pinned (OpenSpec.ofChange wordBackWrong)

/- THE SECOND FORM. 'bulk': how many values and letters a reading holds, each counted each time it is reached (what is shared counts as often as it is met; a slice's spare places count too). A statement '..UptoSaid' is the law's where the arguments, and the package variables that the reading takes, are together of bulk at most 1048576: NARROWER than '..Said'. Prove '..Said' where nothing that the law and all that it calls make is longer than what came in: it says more and counts as full. Else prove '..UptoSaid'. A law counts once. -/
mutual
def uptoBulk {H : Type} : DataW H → Nat
  | .lit (.string bytes) => bytes.length + 1
  | .lit _ => 1
  | .nil => 1
  | .ptr d => uptoBulk d + 1
  | .slice elems spare => uptoBulkAll elems + uptoBulkAll spare + 1
  | .agg parts => uptoBulkAll parts + 1
  | .iface _ d => uptoBulk d + 1
  | .map entries => uptoBulkEntries entries + 1
  | .held _ => 1
def uptoBulkAll {H : Type} : List (DataW H) → Nat
  | [] => 0
  | d :: r => uptoBulk d + uptoBulkAll r
def uptoBulkEntries {H : Type} : List (Lit × DataW H) → Nat
  | [] => 0
  | x :: r => uptoBulkEntry x + uptoBulkEntries r
def uptoBulkEntry {H : Type} : Lit × DataW H → Nat
  | (.string bytes, d) => bytes.length + uptoBulk d + 1
  | (_, d) => uptoBulk d + 1
 end
def uptoSmall : (H : Type) → List (DataW H) → Bool := fun _ ds => decide (uptoBulkAll ds ≤ 1048576)
def OpenSpec.upto (s : _root_.Go.ChangeSpec) : _root_.Go.OpenSpec := { _root_.Go.OpenSpec.ofChange s with cond := some uptoSmall }

/-- 'salternlaw01.WordTurns', WHERE WHAT IT READS IS OF BULK AT MOST 1048576: true; the input reads as it did. -/
def wordTurnsUptoRow : OpenClaim := { program := "ytecaiaobbjddeaa", sum := "c82ac21c681b4878e51c8aaa162589884b25148b7d427af27edf9fadd8b16fbc", func := "saltern/salternlaw01.WordTurns", spec := "wordTurns", apart := false, narrowed := true }
def WordTurnsUptoSaid : Prop := wordTurnsUptoRow.holds Try.pinned (OpenSpec.upto wordTurnsSpec)

/-- 'salternlaw01.WordZigzags', WHERE WHAT IT READS IS OF BULK AT MOST 1048576: true; the input reads as it did. -/
def wordZigzagsUptoRow : OpenClaim := { program := "ytecaiaobbjddeaa", sum := "c82ac21c681b4878e51c8aaa162589884b25148b7d427af27edf9fadd8b16fbc", func := "saltern/salternlaw01.WordZigzags", spec := "wordZigzags", apart := false, narrowed := true }
def WordZigzagsUptoSaid : Prop := wordZigzagsUptoRow.holds Try.pinned (OpenSpec.upto wordZigzagsSpec)

/-- 'salternlaw01.WordVarints', WHERE WHAT IT READS IS OF BULK AT MOST 1048576: true; the input reads as it did. -/
def wordVarintsUptoRow : OpenClaim := { program := "ytecaiaobbjddeaa", sum := "c82ac21c681b4878e51c8aaa162589884b25148b7d427af27edf9fadd8b16fbc", func := "saltern/salternlaw01.WordVarints", spec := "wordVarints", apart := false, narrowed := true }
def WordVarintsUptoSaid : Prop := wordVarintsUptoRow.holds Try.pinned (OpenSpec.upto wordVarintsSpec)

/-- 'salternlaw01.WordOne', WHERE WHAT IT READS IS OF BULK AT MOST 1048576: true; the input reads as it did. -/
def wordOneUptoRow : OpenClaim := { program := "ytecaiaobbjddeaa", sum := "c82ac21c681b4878e51c8aaa162589884b25148b7d427af27edf9fadd8b16fbc", func := "saltern/salternlaw01.WordOne", spec := "wordOne", apart := false, narrowed := true }
def WordOneUptoSaid : Prop := wordOneUptoRow.holds Try.pinned (OpenSpec.upto wordOneSpec)

/-- 'salternlaw01.WordBytes', WHERE WHAT IT READS IS OF BULK AT MOST 1048576: true; the input reads as it did. -/
def wordBytesUptoRow : OpenClaim := { program := "ytecaiaobbjddeaa", sum := "c82ac21c681b4878e51c8aaa162589884b25148b7d427af27edf9fadd8b16fbc", func := "saltern/salternlaw01.WordBytes", spec := "wordBytes", apart := false, narrowed := true }
def WordBytesUptoSaid : Prop := wordBytesUptoRow.holds Try.pinned (OpenSpec.upto wordBytesSpec)

/-- 'salternlaw01.WordBack', WHERE WHAT IT READS IS OF BULK AT MOST 1048576: true; the input reads as it did. -/
def wordBackUptoRow : OpenClaim := { program := "ytecaiaobbjddeaa", sum := "c82ac21c681b4878e51c8aaa162589884b25148b7d427af27edf9fadd8b16fbc", func := "saltern/salternlaw01.WordBack", spec := "wordBack", apart := false, narrowed := true }
def WordBackUptoSaid : Prop := wordBackUptoRow.holds Try.pinned (OpenSpec.upto wordBackSpec)

end Rows
end Go.Proofs.Ytecaiaobbjddeaa
