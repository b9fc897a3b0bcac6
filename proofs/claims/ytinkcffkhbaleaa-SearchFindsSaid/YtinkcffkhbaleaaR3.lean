import Derived.Test.YtinkcffkhbaleaaR
import Derived.Deep.Grids
/-! A slice of bools that came in, opened. -/
namespace Go.Proofs.Ytinkcffkhbaleaa
open Go.Deep Go.ChangeShapes Go.WideShapes Go.ChangeAt Go.RowKit
set_option linter.unusedVariables false
theorem open_boolsl {H : Type} {enc : TypeId × Value → H} {P : Program} {W : World} {base : Nat} {held : Bool} {t e : TypeId} {a : Option Addr} {len cap : Nat} {d : DataW H} {ps : List MemPlace}
    (hu : P.underlying t = some (.slice e)) (he : P.underlying e = some .bool) (hc : P.cellsOf e = 1)
    (h : DataW.Trod enc P W base (fun _ => true) held t (.slice a len cap) d ps) : ∃ l : List Bool, len = l.length ∧ l.length ≤ cap ∧ RdR (fun x v => v = Value.bool x) W a l := by
  obtain ⟨fuel, hf⟩ := h
  rcases open_bools hu he hc hf with ⟨hcs, _⟩ | ⟨x, len', cap', B, hcs, _, hl, hm, _, hcell⟩
  · simp [Value.cells] at hcs
    obtain ⟨rfl, rfl, rfl⟩ := hcs
    exact ⟨[], rfl, by simp, by simp, fun j hj => by simp at hj⟩
  · simp [Value.cells] at hcs
    obtain ⟨rfl, rfl, rfl⟩ := hcs
    refine ⟨(List.range len).map B, by simp, by simpa using hl, by simp; unfold maxLen at hm; omega, fun j hj => ?_⟩
    have hj' : j < len := by simpa using hj
    exact ⟨x, _, rfl, hcell j (by omega), by simp⟩
end Go.Proofs.Ytinkcffkhbaleaa
