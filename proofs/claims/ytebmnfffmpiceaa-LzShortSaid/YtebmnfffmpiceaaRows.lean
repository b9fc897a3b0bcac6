/-
  No cell of these rows narrows 'for every input' (looked for: loops, veiled, ifaces, maps, wideKeys, modest, calm, conditions, laid).
  DERIVED. THE GIVEN ROWS OF THIS SEAT. 7 by the template 'for every input the law returns true; each argument reads behind the call as it read before'; 0 by the template 'total and deterministic' (their statements: YtebmnfffmpiceaaTotals.lean).
  GIVEN WITH THE SEED: the statements are not yours to turn. If you find one false, say at which input.
  Laid BY PROGRAM, IN A SANDBOX (cutbox-rows.mjs): the forced cells as the released guide's own fill.sh prints them over the translation b41f62f082e27fc1… (all of the seat's roots in one cut). By AI agents, Wed Nov 11 2026. No macro, syntax, notation, axiom, sorry.
-/
import Derived.Test.YtebmnfffmpiceaaChecked
import GoSem.Claim
import GoSem.ClaimJoined
import GoSem.ClaimMapViews
import Derived.JoinedTies
import Derived.KernelRfl
namespace Go.Proofs.Ytebmnfffmpiceaa
/- THE CELL 'sum', in the pinned program and in every row, IS THE sha256 OF THE DUMP (.gsa) THAT YtebmnfffmpiceaaProg.lean LOADS. Nothing in Lean hashes anything: it is a label: what it is worth is what the hold of that sum in a sandbox is worth. -/
noncomputable def Try.pinned : Pinned := { name := "ytebmnfffmpiceaa", sum := "b41f62f082e27fc17ba8112326f6fce70688c0993be80ad19d9bcf2df671dd27", checked := Try.checked }
namespace Rows
def none {H : Type} : Left H := { results := [], args := [] }

/-- 'salternlaw06.LzTokens': WHATEVER THE INPUT: true; the input reads as it did. -/
def lzTokensSpec : ChangeSpec := { name := "lzTokens", fn := fun _ => fun
  | [d] => { results := [.lit (.bool true)], args := [d] }
  | _ => none }
def lzTokensRow : OpenClaim := { program := "ytebmnfffmpiceaa", sum := "b41f62f082e27fc17ba8112326f6fce70688c0993be80ad19d9bcf2df671dd27", func := "saltern/salternlaw06.LzTokens", spec := "lzTokens", plainKeys := false, apart := false }
def LzTokensSaid : Prop := lzTokensRow.holds Try.pinned (OpenSpec.ofChange lzTokensSpec)

/-- ITS FALSE NEIGHBOUR: 'it returns false'. Refute it at one input. -/
def lzTokensWrong : ChangeSpec := { name := "lzTokens", fn := fun _ => fun
  | [d] => { results := [.lit (.bool false)], args := [d] }
  | _ => none }
def LzTokensWrongFalsely : Prop := lzTokensRow.holds Try.pinned (OpenSpec.ofChange lzTokensWrong)

/-- 'salternlaw06.LzBytes': WHATEVER THE INPUT: true; the input reads as it did. -/
def lzBytesSpec : ChangeSpec := { name := "lzBytes", fn := fun _ => fun
  | [d] => { results := [.lit (.bool true)], args := [d] }
  | _ => none }
def lzBytesRow : OpenClaim := { program := "ytebmnfffmpiceaa", sum := "b41f62f082e27fc17ba8112326f6fce70688c0993be80ad19d9bcf2df671dd27", func := "saltern/salternlaw06.LzBytes", spec := "lzBytes", plainKeys := false, apart := false }
def LzBytesSaid : Prop := lzBytesRow.holds Try.pinned (OpenSpec.ofChange lzBytesSpec)

/-- ITS FALSE NEIGHBOUR: 'it returns false'. Refute it at one input. -/
def lzBytesWrong : ChangeSpec := { name := "lzBytes", fn := fun _ => fun
  | [d] => { results := [.lit (.bool false)], args := [d] }
  | _ => none }
def LzBytesWrongFalsely : Prop := lzBytesRow.holds Try.pinned (OpenSpec.ofChange lzBytesWrong)

/-- 'salternlaw06.LzBack': WHATEVER THE INPUT: true; the input reads as it did. -/
def lzBackSpec : ChangeSpec := { name := "lzBack", fn := fun _ => fun
  | [d] => { results := [.lit (.bool true)], args := [d] }
  | _ => none }
def lzBackRow : OpenClaim := { program := "ytebmnfffmpiceaa", sum := "b41f62f082e27fc17ba8112326f6fce70688c0993be80ad19d9bcf2df671dd27", func := "saltern/salternlaw06.LzBack", spec := "lzBack", plainKeys := false, apart := false }
def LzBackSaid : Prop := lzBackRow.holds Try.pinned (OpenSpec.ofChange lzBackSpec)

/-- ITS FALSE NEIGHBOUR: 'it returns false'. Refute it at one input. -/
def lzBackWrong : ChangeSpec := { name := "lzBack", fn := fun _ => fun
  | [d] => { results := [.lit (.bool false)], args := [d] }
  | _ => none }
def LzBackWrongFalsely : Prop := lzBackRow.holds Try.pinned (OpenSpec.ofChange lzBackWrong)

/-- 'salternlaw06.LzShort': WHATEVER THE INPUT: true; the input reads as it did. -/
def lzShortSpec : ChangeSpec := { name := "lzShort", fn := fun _ => fun
  | [d] => { results := [.lit (.bool true)], args := [d] }
  | _ => none }
def lzShortRow : OpenClaim := { program := "ytebmnfffmpiceaa", sum := "b41f62f082e27fc17ba8112326f6fce70688c0993be80ad19d9bcf2df671dd27", func := "saltern/salternlaw06.LzShort", spec := "lzShort", plainKeys := false, apart := false }
def LzShortSaid : Prop := lzShortRow.holds Try.pinned (OpenSpec.ofChange lzShortSpec)

/-- ITS FALSE NEIGHBOUR: 'it returns false'. Refute it at one input. -/
def lzShortWrong : ChangeSpec := { name := "lzShort", fn := fun _ => fun
  | [d] => { results := [.lit (.bool false)], args := [d] }
  | _ => none }
def LzShortWrongFalsely : Prop := lzShortRow.holds Try.pinned (OpenSpec.ofChange lzShortWrong)

/-- 'salternlaw06.LzBegins': WHATEVER THE INPUT: true; the input reads as it did. -/
def lzBeginsSpec : ChangeSpec := { name := "lzBegins", fn := fun _ => fun
  | [d1, d2] => { results := [.lit (.bool true)], args := [d1, d2] }
  | _ => none }
def lzBeginsRow : OpenClaim := { program := "ytebmnfffmpiceaa", sum := "b41f62f082e27fc17ba8112326f6fce70688c0993be80ad19d9bcf2df671dd27", func := "saltern/salternlaw06.LzBegins", spec := "lzBegins", plainKeys := false, apart := false }
def LzBeginsSaid : Prop := lzBeginsRow.holds Try.pinned (OpenSpec.ofChange lzBeginsSpec)

/-- ITS FALSE NEIGHBOUR: 'it returns false'. Refute it at one input. -/
def lzBeginsWrong : ChangeSpec := { name := "lzBegins", fn := fun _ => fun
  | [d1, d2] => { results := [.lit (.bool false)], args := [d1, d2] }
  | _ => none }
def LzBeginsWrongFalsely : Prop := lzBeginsRow.holds Try.pinned (OpenSpec.ofChange lzBeginsWrong)

/-- 'salternlaw06.LzLongest': WHATEVER THE INPUT: true; the input reads as it did. -/
def lzLongestSpec : ChangeSpec := { name := "lzLongest", fn := fun _ => fun
  | [d1, d2] => { results := [.lit (.bool true)], args := [d1, d2] }
  | _ => none }
def lzLongestRow : OpenClaim := { program := "ytebmnfffmpiceaa", sum := "b41f62f082e27fc17ba8112326f6fce70688c0993be80ad19d9bcf2df671dd27", func := "saltern/salternlaw06.LzLongest", spec := "lzLongest", plainKeys := false, apart := false }
def LzLongestSaid : Prop := lzLongestRow.holds Try.pinned (OpenSpec.ofChange lzLongestSpec)

/-- ITS FALSE NEIGHBOUR: 'it returns false'. Refute it at one input. -/
def lzLongestWrong : ChangeSpec := { name := "lzLongest", fn := fun _ => fun
  | [d1, d2] => { results := [.lit (.bool false)], args := [d1, d2] }
  | _ => none }
def LzLongestWrongFalsely : Prop := lzLongestRow.holds Try.pinned (OpenSpec.ofChange lzLongestWrong)

/-- 'salternlaw06.LzChecks': WHATEVER THE INPUT: true; the input reads as it did. -/
def lzChecksSpec : ChangeSpec := { name := "lzChecks", fn := fun _ => fun
  | [d1, d2] => { results := [.lit (.bool true)], args := [d1, d2] }
  | _ => none }
def lzChecksRow : OpenClaim := { program := "ytebmnfffmpiceaa", sum := "b41f62f082e27fc17ba8112326f6fce70688c0993be80ad19d9bcf2df671dd27", func := "saltern/salternlaw06.LzChecks", spec := "lzChecks", plainKeys := false, apart := false }
def LzChecksSaid : Prop := lzChecksRow.holds Try.pinned (OpenSpec.ofChange lzChecksSpec)

/-- ITS FALSE NEIGHBOUR: 'it returns false'. Refute it at one input. -/
def lzChecksWrong : ChangeSpec := { name := "lzChecks", fn := fun _ => fun
  | [d1, d2] => { results := [.lit (.bool false)], args := [d1, d2] }
  | _ => none }
def LzChecksWrongFalsely : Prop := lzChecksRow.holds Try.pinned (OpenSpec.ofChange lzChecksWrong)

/- THE SECOND FORM. 'bulk': how many values and letters a reading holds, each counted each time it is reached (what is shared counts as often as it is met; a slice's spare places count too). A statement '..UptoSaid' is the law's where the arguments, and the package variables that the reading takes, are together of bulk at most 1048576: NARROWER than '..Said'. Prove '..Said' where nothing that the law and all that it calls make is longer than what came in: it says more and counts as full. Else prove '..UptoSaid'. A law counts once. -/
mutual
def uptoBulk {H : Type} : DataW H → Nat
  | .lit (.string bytes) => bytes.length + 1
  | .lit _ => 1
  | .nil => 1
  | .ptr d => uptoBulk d + 1
  | .slice elems spare => uptoBulkAll elems + uptoBulkAll spare + 1
  | .agg parts => uptoBulkAll parts + 1
  | .iface _ d => uptoBulk d + 1
  | .map entries => uptoBulkEntries entries + 1
  | .held _ => 1
def uptoBulkAll {H : Type} : List (DataW H) → Nat
  | [] => 0
  | d :: r => uptoBulk d + uptoBulkAll r
def uptoBulkEntries {H : Type} : List (Lit × DataW H) → Nat
  | [] => 0
  | x :: r => uptoBulkEntry x + uptoBulkEntries r
def uptoBulkEntry {H : Type} : Lit × DataW H → Nat
  | (.string bytes, d) => bytes.length + uptoBulk d + 1
  | (_, d) => uptoBulk d + 1
 end
def uptoSmall : (H : Type) → List (DataW H) → Bool := fun _ ds => decide (uptoBulkAll ds ≤ 1048576)
def OpenSpec.upto (s : _root_.Go.ChangeSpec) : _root_.Go.OpenSpec := { _root_.Go.OpenSpec.ofChange s with cond := some uptoSmall }

/-- 'salternlaw06.LzTokens', WHERE WHAT IT READS IS OF BULK AT MOST 1048576: true; the input reads as it did. -/
def lzTokensUptoRow : OpenClaim := { program := "ytebmnfffmpiceaa", sum := "b41f62f082e27fc17ba8112326f6fce70688c0993be80ad19d9bcf2df671dd27", func := "saltern/salternlaw06.LzTokens", spec := "lzTokens", plainKeys := false, apart := false, narrowed := true }
def LzTokensUptoSaid : Prop := lzTokensUptoRow.holds Try.pinned (OpenSpec.upto lzTokensSpec)

/-- 'salternlaw06.LzBytes', WHERE WHAT IT READS IS OF BULK AT MOST 1048576: true; the input reads as it did. -/
def lzBytesUptoRow : OpenClaim := { program := "ytebmnfffmpiceaa", sum := "b41f62f082e27fc17ba8112326f6fce70688c0993be80ad19d9bcf2df671dd27", func := "saltern/salternlaw06.LzBytes", spec := "lzBytes", plainKeys := false, apart := false, narrowed := true }
def LzBytesUptoSaid : Prop := lzBytesUptoRow.holds Try.pinned (OpenSpec.upto lzBytesSpec)

/-- 'salternlaw06.LzBack', WHERE WHAT IT READS IS OF BULK AT MOST 1048576: true; the input reads as it did. -/
def lzBackUptoRow : OpenClaim := { program := "ytebmnfffmpiceaa", sum := "b41f62f082e27fc17ba8112326f6fce70688c0993be80ad19d9bcf2df671dd27", func := "saltern/salternlaw06.LzBack", spec := "lzBack", plainKeys := false, apart := false, narrowed := true }
def LzBackUptoSaid : Prop := lzBackUptoRow.holds Try.pinned (OpenSpec.upto lzBackSpec)

/-- 'salternlaw06.LzShort', WHERE WHAT IT READS IS OF BULK AT MOST 1048576: true; the input reads as it did. -/
def lzShortUptoRow : OpenClaim := { program := "ytebmnfffmpiceaa", sum := "b41f62f082e27fc17ba8112326f6fce70688c0993be80ad19d9bcf2df671dd27", func := "saltern/salternlaw06.LzShort", spec := "lzShort", plainKeys := false, apart := false, narrowed := true }
def LzShortUptoSaid : Prop := lzShortUptoRow.holds Try.pinned (OpenSpec.upto lzShortSpec)

/-- 'salternlaw06.LzBegins', WHERE WHAT IT READS IS OF BULK AT MOST 1048576: true; the input reads as it did. -/
def lzBeginsUptoRow : OpenClaim := { program := "ytebmnfffmpiceaa", sum := "b41f62f082e27fc17ba8112326f6fce70688c0993be80ad19d9bcf2df671dd27", func := "saltern/salternlaw06.LzBegins", spec := "lzBegins", plainKeys := false, apart := false, narrowed := true }
def LzBeginsUptoSaid : Prop := lzBeginsUptoRow.holds Try.pinned (OpenSpec.upto lzBeginsSpec)

/-- 'salternlaw06.LzLongest', WHERE WHAT IT READS IS OF BULK AT MOST 1048576: true; the input reads as it did. -/
def lzLongestUptoRow : OpenClaim := { program := "ytebmnfffmpiceaa", sum := "b41f62f082e27fc17ba8112326f6fce70688c0993be80ad19d9bcf2df671dd27", func := "saltern/salternlaw06.LzLongest", spec := "lzLongest", plainKeys := false, apart := false, narrowed := true }
def LzLongestUptoSaid : Prop := lzLongestUptoRow.holds Try.pinned (OpenSpec.upto lzLongestSpec)

/-- 'salternlaw06.LzChecks', WHERE WHAT IT READS IS OF BULK AT MOST 1048576: true; the input reads as it did. -/
def lzChecksUptoRow : OpenClaim := { program := "ytebmnfffmpiceaa", sum := "b41f62f082e27fc17ba8112326f6fce70688c0993be80ad19d9bcf2df671dd27", func := "saltern/salternlaw06.LzChecks", spec := "lzChecks", plainKeys := false, apart := false, narrowed := true }
def LzChecksUptoSaid : Prop := lzChecksUptoRow.holds Try.pinned (OpenSpec.upto lzChecksSpec)

end Rows
end Go.Proofs.Ytebmnfffmpiceaa
