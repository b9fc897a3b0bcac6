/-
  No cell of these rows narrows 'for every input' (looked for: loops, veiled, ifaces, maps, wideKeys, modest, calm, conditions, laid).
  DERIVED. THE GIVEN ROWS OF THIS SEAT. 7 by the template 'for every input the law returns true; each argument reads behind the call as it read before'; 0 by the template 'total and deterministic' (their statements: YtglbcejcibohpaaTotals.lean).
  GIVEN WITH THE SEED: the statements are not yours to turn. If you find one false, say at which input.
  Laid BY PROGRAM, IN A SANDBOX (cutbox-rows.mjs): the forced cells as the released guide's own fill.sh prints them over the translation 892ade1d94d1bd88… (all of the seat's roots in one cut). By AI agents, Wed Nov 11 2026. No macro, syntax, notation, axiom, sorry.
-/
import Derived.Test.YtglbcejcibohpaaChecked
import GoSem.Claim
import GoSem.ClaimJoined
import GoSem.ClaimMapViews
import Derived.JoinedTies
import Derived.KernelRfl
namespace Go.Proofs.Ytglbcejcibohpaa
/- THE CELL 'sum', in the pinned program and in every row, IS THE sha256 OF THE DUMP (.gsa) THAT YtglbcejcibohpaaProg.lean LOADS. Nothing in Lean hashes anything: it is a label: what it is worth is what the hold of that sum in a sandbox is worth. -/
noncomputable def Try.pinned : Pinned := { name := "ytglbcejcibohpaa", sum := "892ade1d94d1bd88f33664900bb35392dcdbf0ef13653d97880c9ee5cef32008", checked := Try.checked }
namespace Rows
def none {H : Type} : Left H := { results := [], args := [] }

/-- 'salternlaw10.RegionTakes': WHATEVER THE INPUT: true; the input reads as it did. -/
def regionTakesSpec : ChangeSpec := { name := "regionTakes", fn := fun _ => fun
  | [d1, d2, d3] => { results := [.lit (.bool true)], args := [d1, d2, d3] }
  | _ => none }
def regionTakesRow : OpenClaim := { program := "ytglbcejcibohpaa", sum := "892ade1d94d1bd88f33664900bb35392dcdbf0ef13653d97880c9ee5cef32008", func := "saltern/salternlaw10.RegionTakes", spec := "regionTakes", unfollowed := true, recurses := true, apart := false }
def RegionTakesSaid : Prop := regionTakesRow.holds Try.pinned (OpenSpec.ofChange regionTakesSpec)

/-- ITS FALSE NEIGHBOUR: 'it returns false'. Refute it at one input. -/
def regionTakesWrong : ChangeSpec := { name := "regionTakes", fn := fun _ => fun
  | [d1, d2, d3] => { results := [.lit (.bool false)], args := [d1, d2, d3] }
  | _ => none }
def RegionTakesWrongFalsely : Prop := regionTakesRow.holds Try.pinned (OpenSpec.ofChange regionTakesWrong)

/-- 'salternlaw10.RegionOrder': WHATEVER THE INPUT: true; the input reads as it did. -/
def regionOrderSpec : ChangeSpec := { name := "regionOrder", fn := fun _ => fun
  | [d1, d2, d3] => { results := [.lit (.bool true)], args := [d1, d2, d3] }
  | _ => none }
def regionOrderRow : OpenClaim := { program := "ytglbcejcibohpaa", sum := "892ade1d94d1bd88f33664900bb35392dcdbf0ef13653d97880c9ee5cef32008", func := "saltern/salternlaw10.RegionOrder", spec := "regionOrder", unfollowed := true, recurses := true, apart := false }
def RegionOrderSaid : Prop := regionOrderRow.holds Try.pinned (OpenSpec.ofChange regionOrderSpec)

/-- ITS FALSE NEIGHBOUR: 'it returns false'. Refute it at one input. -/
def regionOrderWrong : ChangeSpec := { name := "regionOrder", fn := fun _ => fun
  | [d1, d2, d3] => { results := [.lit (.bool false)], args := [d1, d2, d3] }
  | _ => none }
def RegionOrderWrongFalsely : Prop := regionOrderRow.holds Try.pinned (OpenSpec.ofChange regionOrderWrong)

/-- 'salternlaw10.RegionFirst': WHATEVER THE INPUT: true; the input reads as it did. -/
def regionFirstSpec : ChangeSpec := { name := "regionFirst", fn := fun _ => fun
  | [d1, d2, d3, d4] => { results := [.lit (.bool true)], args := [d1, d2, d3, d4] }
  | _ => none }
def regionFirstRow : OpenClaim := { program := "ytglbcejcibohpaa", sum := "892ade1d94d1bd88f33664900bb35392dcdbf0ef13653d97880c9ee5cef32008", func := "saltern/salternlaw10.RegionFirst", spec := "regionFirst", unfollowed := true, recurses := true, apart := false }
def RegionFirstSaid : Prop := regionFirstRow.holds Try.pinned (OpenSpec.ofChange regionFirstSpec)

/-- ITS FALSE NEIGHBOUR: 'it returns false'. Refute it at one input. -/
def regionFirstWrong : ChangeSpec := { name := "regionFirst", fn := fun _ => fun
  | [d1, d2, d3, d4] => { results := [.lit (.bool false)], args := [d1, d2, d3, d4] }
  | _ => none }
def RegionFirstWrongFalsely : Prop := regionFirstRow.holds Try.pinned (OpenSpec.ofChange regionFirstWrong)

/-- 'salternlaw10.RegionBack': WHATEVER THE INPUT: true; the input reads as it did. -/
def regionBackSpec : ChangeSpec := { name := "regionBack", fn := fun _ => fun
  | [d1, d2, d3, d4] => { results := [.lit (.bool true)], args := [d1, d2, d3, d4] }
  | _ => none }
def regionBackRow : OpenClaim := { program := "ytglbcejcibohpaa", sum := "892ade1d94d1bd88f33664900bb35392dcdbf0ef13653d97880c9ee5cef32008", func := "saltern/salternlaw10.RegionBack", spec := "regionBack", unfollowed := true, recurses := true, apart := false }
def RegionBackSaid : Prop := regionBackRow.holds Try.pinned (OpenSpec.ofChange regionBackSpec)

/-- ITS FALSE NEIGHBOUR: 'it returns false'. Refute it at one input. -/
def regionBackWrong : ChangeSpec := { name := "regionBack", fn := fun _ => fun
  | [d1, d2, d3, d4] => { results := [.lit (.bool false)], args := [d1, d2, d3, d4] }
  | _ => none }
def RegionBackWrongFalsely : Prop := regionBackRow.holds Try.pinned (OpenSpec.ofChange regionBackWrong)

/-- 'salternlaw10.RegionOther': WHATEVER THE INPUT: true; the input reads as it did. -/
def regionOtherSpec : ChangeSpec := { name := "regionOther", fn := fun _ => fun
  | [d1, d2] => { results := [.lit (.bool true)], args := [d1, d2] }
  | _ => none }
def regionOtherRow : OpenClaim := { program := "ytglbcejcibohpaa", sum := "892ade1d94d1bd88f33664900bb35392dcdbf0ef13653d97880c9ee5cef32008", func := "saltern/salternlaw10.RegionOther", spec := "regionOther", unfollowed := true, recurses := true, apart := false }
def RegionOtherSaid : Prop := regionOtherRow.holds Try.pinned (OpenSpec.ofChange regionOtherSpec)

/-- ITS FALSE NEIGHBOUR: 'it returns false'. Refute it at one input. -/
def regionOtherWrong : ChangeSpec := { name := "regionOther", fn := fun _ => fun
  | [d1, d2] => { results := [.lit (.bool false)], args := [d1, d2] }
  | _ => none }
def RegionOtherWrongFalsely : Prop := regionOtherRow.holds Try.pinned (OpenSpec.ofChange regionOtherWrong)

/-- 'salternlaw10.RegionAsks': WHATEVER THE INPUT: true; the input reads as it did. -/
def regionAsksSpec : ChangeSpec := { name := "regionAsks", fn := fun _ => fun
  | [d1, d2, d3] => { results := [.lit (.bool true)], args := [d1, d2, d3] }
  | _ => none }
def regionAsksRow : OpenClaim := { program := "ytglbcejcibohpaa", sum := "892ade1d94d1bd88f33664900bb35392dcdbf0ef13653d97880c9ee5cef32008", func := "saltern/salternlaw10.RegionAsks", spec := "regionAsks", unfollowed := true, recurses := true, apart := false }
def RegionAsksSaid : Prop := regionAsksRow.holds Try.pinned (OpenSpec.ofChange regionAsksSpec)

/-- ITS FALSE NEIGHBOUR: 'it returns false'. Refute it at one input. -/
def regionAsksWrong : ChangeSpec := { name := "regionAsks", fn := fun _ => fun
  | [d1, d2, d3] => { results := [.lit (.bool false)], args := [d1, d2, d3] }
  | _ => none }
def RegionAsksWrongFalsely : Prop := regionAsksRow.holds Try.pinned (OpenSpec.ofChange regionAsksWrong)

/-- 'salternlaw10.RegionTurns': WHATEVER THE INPUT: true; the input reads as it did. -/
def regionTurnsSpec : ChangeSpec := { name := "regionTurns", fn := fun _ => fun
  | [d1, d2, d3] => { results := [.lit (.bool true)], args := [d1, d2, d3] }
  | _ => none }
def regionTurnsRow : OpenClaim := { program := "ytglbcejcibohpaa", sum := "892ade1d94d1bd88f33664900bb35392dcdbf0ef13653d97880c9ee5cef32008", func := "saltern/salternlaw10.RegionTurns", spec := "regionTurns", unfollowed := true, recurses := true, apart := false }
def RegionTurnsSaid : Prop := regionTurnsRow.holds Try.pinned (OpenSpec.ofChange regionTurnsSpec)

/-- ITS FALSE NEIGHBOUR: 'it returns false'. Refute it at one input. -/
def regionTurnsWrong : ChangeSpec := { name := "regionTurns", fn := fun _ => fun
  | [d1, d2, d3] => { results := [.lit (.bool false)], args := [d1, d2, d3] }
  | _ => none }
def RegionTurnsWrongFalsely : Prop := regionTurnsRow.holds Try.pinned (OpenSpec.ofChange regionTurnsWrong)

/- THE SECOND FORM. 'bulk': how many values and letters a reading holds, each counted each time it is reached (what is shared counts as often as it is met; a slice's spare places count too). A statement '..UptoSaid' is the law's where the arguments, and the package variables that the reading takes, are together of bulk at most 1048576: NARROWER than '..Said'. Prove '..Said' where nothing that the law and all that it calls make is longer than what came in: it says more and counts as full. Else prove '..UptoSaid'. A law counts once. -/
mutual
def uptoBulk {H : Type} : DataW H → Nat
  | .lit (.string bytes) => bytes.length + 1
  | .lit _ => 1
  | .nil => 1
  | .ptr d => uptoBulk d + 1
  | .slice elems spare => uptoBulkAll elems + uptoBulkAll spare + 1
  | .agg parts => uptoBulkAll parts + 1
  | .iface _ d => uptoBulk d + 1
  | .map entries => uptoBulkEntries entries + 1
  | .held _ => 1
def uptoBulkAll {H : Type} : List (DataW H) → Nat
  | [] => 0
  | d :: r => uptoBulk d + uptoBulkAll r
def uptoBulkEntries {H : Type} : List (Lit × DataW H) → Nat
  | [] => 0
  | x :: r => uptoBulkEntry x + uptoBulkEntries r
def uptoBulkEntry {H : Type} : Lit × DataW H → Nat
  | (.string bytes, d) => bytes.length + uptoBulk d + 1
  | (_, d) => uptoBulk d + 1
 end
def uptoSmall : (H : Type) → List (DataW H) → Bool := fun _ ds => decide (uptoBulkAll ds ≤ 1048576)
def OpenSpec.upto (s : _root_.Go.ChangeSpec) : _root_.Go.OpenSpec := { _root_.Go.OpenSpec.ofChange s with cond := some uptoSmall }

/-- 'salternlaw10.RegionTakes', WHERE WHAT IT READS IS OF BULK AT MOST 1048576: true; the input reads as it did. -/
def regionTakesUptoRow : OpenClaim := { program := "ytglbcejcibohpaa", sum := "892ade1d94d1bd88f33664900bb35392dcdbf0ef13653d97880c9ee5cef32008", func := "saltern/salternlaw10.RegionTakes", spec := "regionTakes", unfollowed := true, recurses := true, apart := false, narrowed := true }
def RegionTakesUptoSaid : Prop := regionTakesUptoRow.holds Try.pinned (OpenSpec.upto regionTakesSpec)

/-- 'salternlaw10.RegionOrder', WHERE WHAT IT READS IS OF BULK AT MOST 1048576: true; the input reads as it did. -/
def regionOrderUptoRow : OpenClaim := { program := "ytglbcejcibohpaa", sum := "892ade1d94d1bd88f33664900bb35392dcdbf0ef13653d97880c9ee5cef32008", func := "saltern/salternlaw10.RegionOrder", spec := "regionOrder", unfollowed := true, recurses := true, apart := false, narrowed := true }
def RegionOrderUptoSaid : Prop := regionOrderUptoRow.holds Try.pinned (OpenSpec.upto regionOrderSpec)

/-- 'salternlaw10.RegionFirst', WHERE WHAT IT READS IS OF BULK AT MOST 1048576: true; the input reads as it did. -/
def regionFirstUptoRow : OpenClaim := { program := "ytglbcejcibohpaa", sum := "892ade1d94d1bd88f33664900bb35392dcdbf0ef13653d97880c9ee5cef32008", func := "saltern/salternlaw10.RegionFirst", spec := "regionFirst", unfollowed := true, recurses := true, apart := false, narrowed := true }
def RegionFirstUptoSaid : Prop := regionFirstUptoRow.holds Try.pinned (OpenSpec.upto regionFirstSpec)

/-- 'salternlaw10.RegionBack', WHERE WHAT IT READS IS OF BULK AT MOST 1048576: true; the input reads as it did. -/
def regionBackUptoRow : OpenClaim := { program := "ytglbcejcibohpaa", sum := "892ade1d94d1bd88f33664900bb35392dcdbf0ef13653d97880c9ee5cef32008", func := "saltern/salternlaw10.RegionBack", spec := "regionBack", unfollowed := true, recurses := true, apart := false, narrowed := true }
def RegionBackUptoSaid : Prop := regionBackUptoRow.holds Try.pinned (OpenSpec.upto regionBackSpec)

/-- 'salternlaw10.RegionOther', WHERE WHAT IT READS IS OF BULK AT MOST 1048576: true; the input reads as it did. -/
def regionOtherUptoRow : OpenClaim := { program := "ytglbcejcibohpaa", sum := "892ade1d94d1bd88f33664900bb35392dcdbf0ef13653d97880c9ee5cef32008", func := "saltern/salternlaw10.RegionOther", spec := "regionOther", unfollowed := true, recurses := true, apart := false, narrowed := true }
def RegionOtherUptoSaid : Prop := regionOtherUptoRow.holds Try.pinned (OpenSpec.upto regionOtherSpec)

/-- 'salternlaw10.RegionAsks', WHERE WHAT IT READS IS OF BULK AT MOST 1048576: true; the input reads as it did. -/
def regionAsksUptoRow : OpenClaim := { program := "ytglbcejcibohpaa", sum := "892ade1d94d1bd88f33664900bb35392dcdbf0ef13653d97880c9ee5cef32008", func := "saltern/salternlaw10.RegionAsks", spec := "regionAsks", unfollowed := true, recurses := true, apart := false, narrowed := true }
def RegionAsksUptoSaid : Prop := regionAsksUptoRow.holds Try.pinned (OpenSpec.upto regionAsksSpec)

/-- 'salternlaw10.RegionTurns', WHERE WHAT IT READS IS OF BULK AT MOST 1048576: true; the input reads as it did. -/
def regionTurnsUptoRow : OpenClaim := { program := "ytglbcejcibohpaa", sum := "892ade1d94d1bd88f33664900bb35392dcdbf0ef13653d97880c9ee5cef32008", func := "saltern/salternlaw10.RegionTurns", spec := "regionTurns", unfollowed := true, recurses := true, apart := false, narrowed := true }
def RegionTurnsUptoSaid : Prop := regionTurnsUptoRow.holds Try.pinned (OpenSpec.upto regionTurnsSpec)

end Rows
end Go.Proofs.Ytglbcejcibohpaa
