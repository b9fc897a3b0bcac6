/-
  No cell of these rows narrows 'for every input' (looked for: loops, veiled, ifaces, maps, wideKeys, modest, calm, conditions, laid).
  DERIVED. THE GIVEN ROWS OF THIS SEAT. 6 by the template 'for every input the law returns true; each argument reads behind the call as it read before'; 0 by the template 'total and deterministic' (their statements: YtinkcffkhbaleaaTotals.lean).
  GIVEN WITH THE SEED: the statements are not yours to turn. If you find one false, say at which input.
  Laid BY PROGRAM, IN A SANDBOX (cutbox-rows.mjs): the forced cells as the released guide's own fill.sh prints them over the translation 4ff05b102f463335… (all of the seat's roots in one cut). By AI agents, Wed Nov 11 2026. No macro, syntax, notation, axiom, sorry.
-/
import Derived.Test.YtinkcffkhbaleaaChecked
import GoSem.Claim
import GoSem.ClaimJoined
import GoSem.ClaimMapViews
import Derived.JoinedTies
import Derived.KernelRfl
namespace Go.Proofs.Ytinkcffkhbaleaa
/- THE CELL 'sum', in the pinned program and in every row, IS THE sha256 OF THE DUMP (.gsa) THAT YtinkcffkhbaleaaProg.lean LOADS. Nothing in Lean hashes anything: it is a label: what it is worth is what the hold of that sum in a sandbox is worth. -/
noncomputable def Try.pinned : Pinned := { name := "ytinkcffkhbaleaa", sum := "4ff05b102f463335809ebc82d3c1238a6bde64916e0330c142ab4dd7b15c638f", checked := Try.checked }
namespace Rows
def none {H : Type} : Left H := { results := [], args := [] }

/-- 'salternlaw21.SearchSpans': WHATEVER THE INPUT: true; the input reads as it did. -/
def searchSpansSpec : ChangeSpec := { name := "searchSpans", fn := fun _ => fun
  | [d1, d2, d3] => { results := [.lit (.bool true)], args := [d1, d2, d3] }
  | _ => none }
def searchSpansRow : OpenClaim := { program := "ytinkcffkhbaleaa", sum := "4ff05b102f463335809ebc82d3c1238a6bde64916e0330c142ab4dd7b15c638f", func := "saltern/salternlaw21.SearchSpans", spec := "searchSpans", apart := false }
def SearchSpansSaid : Prop := searchSpansRow.holds Try.pinned (OpenSpec.ofChange searchSpansSpec)

/-- ITS FALSE NEIGHBOUR: 'it returns false'. Refute it at one input. -/
def searchSpansWrong : ChangeSpec := { name := "searchSpans", fn := fun _ => fun
  | [d1, d2, d3] => { results := [.lit (.bool false)], args := [d1, d2, d3] }
  | _ => none }
def SearchSpansWrongFalsely : Prop := searchSpansRow.holds Try.pinned (OpenSpec.ofChange searchSpansWrong)

/-- 'salternlaw21.SearchSteps': WHATEVER THE INPUT: true; the input reads as it did. -/
def searchStepsSpec : ChangeSpec := { name := "searchSteps", fn := fun _ => fun
  | [d1, d2, d3] => { results := [.lit (.bool true)], args := [d1, d2, d3] }
  | _ => none }
def searchStepsRow : OpenClaim := { program := "ytinkcffkhbaleaa", sum := "4ff05b102f463335809ebc82d3c1238a6bde64916e0330c142ab4dd7b15c638f", func := "saltern/salternlaw21.SearchSteps", spec := "searchSteps", apart := false }
def SearchStepsSaid : Prop := searchStepsRow.holds Try.pinned (OpenSpec.ofChange searchStepsSpec)

/-- ITS FALSE NEIGHBOUR: 'it returns false'. Refute it at one input. -/
def searchStepsWrong : ChangeSpec := { name := "searchSteps", fn := fun _ => fun
  | [d1, d2, d3] => { results := [.lit (.bool false)], args := [d1, d2, d3] }
  | _ => none }
def SearchStepsWrongFalsely : Prop := searchStepsRow.holds Try.pinned (OpenSpec.ofChange searchStepsWrong)

/-- 'salternlaw21.SearchFew': WHATEVER THE INPUT: true; the input reads as it did. -/
def searchFewSpec : ChangeSpec := { name := "searchFew", fn := fun _ => fun
  | [d1, d2, d3] => { results := [.lit (.bool true)], args := [d1, d2, d3] }
  | _ => none }
def searchFewRow : OpenClaim := { program := "ytinkcffkhbaleaa", sum := "4ff05b102f463335809ebc82d3c1238a6bde64916e0330c142ab4dd7b15c638f", func := "saltern/salternlaw21.SearchFew", spec := "searchFew", apart := false }
def SearchFewSaid : Prop := searchFewRow.holds Try.pinned (OpenSpec.ofChange searchFewSpec)

/-- ITS FALSE NEIGHBOUR: 'it returns false'. Refute it at one input. -/
def searchFewWrong : ChangeSpec := { name := "searchFew", fn := fun _ => fun
  | [d1, d2, d3] => { results := [.lit (.bool false)], args := [d1, d2, d3] }
  | _ => none }
def SearchFewWrongFalsely : Prop := searchFewRow.holds Try.pinned (OpenSpec.ofChange searchFewWrong)

/-- 'salternlaw21.SearchRows': WHATEVER THE INPUT: true; the input reads as it did. -/
def searchRowsSpec : ChangeSpec := { name := "searchRows", fn := fun _ => fun
  | [d1, d2] => { results := [.lit (.bool true)], args := [d1, d2] }
  | _ => none }
def searchRowsRow : OpenClaim := { program := "ytinkcffkhbaleaa", sum := "4ff05b102f463335809ebc82d3c1238a6bde64916e0330c142ab4dd7b15c638f", func := "saltern/salternlaw21.SearchRows", spec := "searchRows", unfollowed := true, recurses := true, apart := false }
def SearchRowsSaid : Prop := searchRowsRow.holds Try.pinned (OpenSpec.ofChange searchRowsSpec)

/-- ITS FALSE NEIGHBOUR: 'it returns false'. Refute it at one input. -/
def searchRowsWrong : ChangeSpec := { name := "searchRows", fn := fun _ => fun
  | [d1, d2] => { results := [.lit (.bool false)], args := [d1, d2] }
  | _ => none }
def SearchRowsWrongFalsely : Prop := searchRowsRow.holds Try.pinned (OpenSpec.ofChange searchRowsWrong)

/-- 'salternlaw21.SearchFinds': WHATEVER THE INPUT: true; the input reads as it did. -/
def searchFindsSpec : ChangeSpec := { name := "searchFinds", fn := fun _ => fun
  | [d1, d2, d3] => { results := [.lit (.bool true)], args := [d1, d2, d3] }
  | _ => none }
def searchFindsRow : OpenClaim := { program := "ytinkcffkhbaleaa", sum := "4ff05b102f463335809ebc82d3c1238a6bde64916e0330c142ab4dd7b15c638f", func := "saltern/salternlaw21.SearchFinds", spec := "searchFinds", unfollowed := true, recurses := true, apart := false }
def SearchFindsSaid : Prop := searchFindsRow.holds Try.pinned (OpenSpec.ofChange searchFindsSpec)

/-- ITS FALSE NEIGHBOUR: 'it returns false'. Refute it at one input. -/
def searchFindsWrong : ChangeSpec := { name := "searchFinds", fn := fun _ => fun
  | [d1, d2, d3] => { results := [.lit (.bool false)], args := [d1, d2, d3] }
  | _ => none }
def SearchFindsWrongFalsely : Prop := searchFindsRow.holds Try.pinned (OpenSpec.ofChange searchFindsWrong)

/-- 'salternlaw21.SearchEdge': WHATEVER THE INPUT: true; the input reads as it did. -/
def searchEdgeSpec : ChangeSpec := { name := "searchEdge", fn := fun _ => fun
  | [d1, d2] => { results := [.lit (.bool true)], args := [d1, d2] }
  | _ => none }
def searchEdgeRow : OpenClaim := { program := "ytinkcffkhbaleaa", sum := "4ff05b102f463335809ebc82d3c1238a6bde64916e0330c142ab4dd7b15c638f", func := "saltern/salternlaw21.SearchEdge", spec := "searchEdge", unfollowed := true, recurses := true, apart := false }
def SearchEdgeSaid : Prop := searchEdgeRow.holds Try.pinned (OpenSpec.ofChange searchEdgeSpec)

/-- ITS FALSE NEIGHBOUR: 'it returns false'. Refute it at one input. -/
def searchEdgeWrong : ChangeSpec := { name := "searchEdge", fn := fun _ => fun
  | [d1, d2] => { results := [.lit (.bool false)], args := [d1, d2] }
  | _ => none }
def SearchEdgeWrongFalsely : Prop := searchEdgeRow.holds Try.pinned (OpenSpec.ofChange searchEdgeWrong)

/- THE SECOND FORM. 'bulk': how many values and letters a reading holds, each counted each time it is reached (what is shared counts as often as it is met; a slice's spare places count too). A statement '..UptoSaid' is the law's where the arguments, and the package variables that the reading takes, are together of bulk at most 1048576: NARROWER than '..Said'. Prove '..Said' where nothing that the law and all that it calls make is longer than what came in: it says more and counts as full. Else prove '..UptoSaid'. A law counts once. -/
mutual
def uptoBulk {H : Type} : DataW H → Nat
  | .lit (.string bytes) => bytes.length + 1
  | .lit _ => 1
  | .nil => 1
  | .ptr d => uptoBulk d + 1
  | .slice elems spare => uptoBulkAll elems + uptoBulkAll spare + 1
  | .agg parts => uptoBulkAll parts + 1
  | .iface _ d => uptoBulk d + 1
  | .map entries => uptoBulkEntries entries + 1
  | .held _ => 1
def uptoBulkAll {H : Type} : List (DataW H) → Nat
  | [] => 0
  | d :: r => uptoBulk d + uptoBulkAll r
def uptoBulkEntries {H : Type} : List (Lit × DataW H) → Nat
  | [] => 0
  | x :: r => uptoBulkEntry x + uptoBulkEntries r
def uptoBulkEntry {H : Type} : Lit × DataW H → Nat
  | (.string bytes, d) => bytes.length + uptoBulk d + 1
  | (_, d) => uptoBulk d + 1
 end
def uptoSmall : (H : Type) → List (DataW H) → Bool := fun _ ds => decide (uptoBulkAll ds ≤ 1048576)
def OpenSpec.upto (s : _root_.Go.ChangeSpec) : _root_.Go.OpenSpec := { _root_.Go.OpenSpec.ofChange s with cond := some uptoSmall }

/-- 'salternlaw21.SearchSpans', WHERE WHAT IT READS IS OF BULK AT MOST 1048576: true; the input reads as it did. -/
def searchSpansUptoRow : OpenClaim := { program := "ytinkcffkhbaleaa", sum := "4ff05b102f463335809ebc82d3c1238a6bde64916e0330c142ab4dd7b15c638f", func := "saltern/salternlaw21.SearchSpans", spec := "searchSpans", apart := false, narrowed := true }
def SearchSpansUptoSaid : Prop := searchSpansUptoRow.holds Try.pinned (OpenSpec.upto searchSpansSpec)

/-- 'salternlaw21.SearchSteps', WHERE WHAT IT READS IS OF BULK AT MOST 1048576: true; the input reads as it did. -/
def searchStepsUptoRow : OpenClaim := { program := "ytinkcffkhbaleaa", sum := "4ff05b102f463335809ebc82d3c1238a6bde64916e0330c142ab4dd7b15c638f", func := "saltern/salternlaw21.SearchSteps", spec := "searchSteps", apart := false, narrowed := true }
def SearchStepsUptoSaid : Prop := searchStepsUptoRow.holds Try.pinned (OpenSpec.upto searchStepsSpec)

/-- 'salternlaw21.SearchFew', WHERE WHAT IT READS IS OF BULK AT MOST 1048576: true; the input reads as it did. -/
def searchFewUptoRow : OpenClaim := { program := "ytinkcffkhbaleaa", sum := "4ff05b102f463335809ebc82d3c1238a6bde64916e0330c142ab4dd7b15c638f", func := "saltern/salternlaw21.SearchFew", spec := "searchFew", apart := false, narrowed := true }
def SearchFewUptoSaid : Prop := searchFewUptoRow.holds Try.pinned (OpenSpec.upto searchFewSpec)

/-- 'salternlaw21.SearchRows', WHERE WHAT IT READS IS OF BULK AT MOST 1048576: true; the input reads as it did. -/
def searchRowsUptoRow : OpenClaim := { program := "ytinkcffkhbaleaa", sum := "4ff05b102f463335809ebc82d3c1238a6bde64916e0330c142ab4dd7b15c638f", func := "saltern/salternlaw21.SearchRows", spec := "searchRows", unfollowed := true, recurses := true, apart := false, narrowed := true }
def SearchRowsUptoSaid : Prop := searchRowsUptoRow.holds Try.pinned (OpenSpec.upto searchRowsSpec)

/-- 'salternlaw21.SearchFinds', WHERE WHAT IT READS IS OF BULK AT MOST 1048576: true; the input reads as it did. -/
def searchFindsUptoRow : OpenClaim := { program := "ytinkcffkhbaleaa", sum := "4ff05b102f463335809ebc82d3c1238a6bde64916e0330c142ab4dd7b15c638f", func := "saltern/salternlaw21.SearchFinds", spec := "searchFinds", unfollowed := true, recurses := true, apart := false, narrowed := true }
def SearchFindsUptoSaid : Prop := searchFindsUptoRow.holds Try.pinned (OpenSpec.upto searchFindsSpec)

/-- 'salternlaw21.SearchEdge', WHERE WHAT IT READS IS OF BULK AT MOST 1048576: true; the input reads as it did. -/
def searchEdgeUptoRow : OpenClaim := { program := "ytinkcffkhbaleaa", sum := "4ff05b102f463335809ebc82d3c1238a6bde64916e0330c142ab4dd7b15c638f", func := "saltern/salternlaw21.SearchEdge", spec := "searchEdge", unfollowed := true, recurses := true, apart := false, narrowed := true }
def SearchEdgeUptoSaid : Prop := searchEdgeUptoRow.holds Try.pinned (OpenSpec.upto searchEdgeSpec)

end Rows
end Go.Proofs.Ytinkcffkhbaleaa
