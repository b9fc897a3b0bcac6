import Derived.Test.YtpdigpfjmpaooaaK
/-! Slices of bytes as values, of which a nil one has no room. -/
namespace Go.Proofs.Ytpdigpfjmpaooaa
open Go.RowKit
/-- A slice of bytes as a value; a nil one has no room. -/
def EqN (w : World) (p : List (BitVec 8)) (v : Value) : Prop := ∃ A c, v = .slice A p.length c ∧ p.length ≤ c ∧ RdB w A p ∧ (A = none → c = 0)
theorem EqN.below {w w' : World} (hb : Below w.heap.size w w') (p : List (BitVec 8)) (v : Value) (h : EqN w p v) : EqN w' p v := by
  obtain ⟨A, c, e, hl, hr, hn⟩ := h
  exact ⟨A, c, e, hl, hr.below hb (fun _ _ h => h), hn⟩
end Go.Proofs.Ytpdigpfjmpaooaa
