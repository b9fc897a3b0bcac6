import Derived.Test.YtpdigpfjmpaooaaR3
import Derived.Test.YtpdigpfjmpaooaaE2
import Derived.DataReads
import Derived.Deep.Grids
/-! A slice of slices of bytes, and one of bools, that came in, opened. -/
namespace Go.Proofs.Ytpdigpfjmpaooaa
open Go.Deep Go.ChangeShapes Go.WideShapes Go.ChangeAt Go.RowKit
set_option linter.unusedVariables false
theorem open_boolsl {H : Type} {enc : TypeId × Value → H} {P : Program} {W : World} {base : Nat} {held : Bool} {t e : TypeId} {a : Option Addr} {len cap : Nat} {d : DataW H} {ps : List MemPlace}
    (hu : P.underlying t = some (.slice e)) (he : P.underlying e = some .bool) (hc : P.cellsOf e = 1)
    (h : DataW.Trod enc P W base (fun _ => true) held t (.slice a len cap) d ps) : ∃ l : List Bool, len = l.length ∧ l.length ≤ cap ∧ RdR (fun x v => v = Value.bool x) W a l := by
  obtain ⟨fuel, hf⟩ := h
  rcases open_bools hu he hc hf with ⟨hcs, _⟩ | ⟨x, len', cap', B, hcs, _, hl, hm, _, hcell⟩
  · simp [Value.cells] at hcs
    obtain ⟨rfl, rfl, rfl⟩ := hcs
    exact ⟨[], rfl, by simp, by simp, fun j hj => by simp at hj⟩
  · simp [Value.cells] at hcs
    obtain ⟨rfl, rfl, rfl⟩ := hcs
    refine ⟨(List.range len).map B, by simp, by simpa using hl, by simp; unfold maxLen at hm; omega, fun j hj => ?_⟩
    have hj' : j < len := by simpa using hj
    exact ⟨x, _, rfl, hcell j (by omega), by simp⟩
theorem open_rows {H : Type} {enc : TypeId × Value → H} {P : Program} {W : World} {base : Nat} {spare : Nat → Bool} {held : Bool} {t e e2 : TypeId} {a : Option Addr} {len cap : Nat} {d : DataW H} {ps : List MemPlace}
    (hu : P.underlying t = some (.slice e)) (he : P.underlying e = some (.slice e2)) (he2 : P.underlying e2 = some (.int .u8)) (hc : P.cellsOf e = 1) (hc2 : P.cellsOf e2 = 1)
    (h : DataW.Trod enc P W base spare held t (.slice a len cap) d ps) : ∃ l : List (List (BitVec 8)), len = l.length ∧ l.length ≤ cap ∧ RdR (EqN W) W a l := by
  obtain ⟨fuel, hf⟩ := h
  rcases DataW.trod_slice hu hf with ⟨hcs, _⟩ | ⟨x, len', cap', elems, rest, n, _, hcs, _, hb, hl, hm, hel, hget, _⟩
  · simp [Value.cells] at hcs
    obtain ⟨rfl, rfl, rfl⟩ := hcs
    exact ⟨[], rfl, by simp, by simp, fun j hj => by simp at hj⟩
  · simp [Value.cells] at hcs
    obtain ⟨rfl, rfl, rfl⟩ := hcs
    have each : ∀ i, ∃ l : List (BitVec 8), i < len → ∃ v, W.cell? (x.add i) = some v ∧ EqN W l v := by
      intro i
      by_cases hi : i < len
      · have h1 := hget i hi
        rw [List.getElem?_eq_getElem (by omega), hc, Nat.mul_one] at h1
        cases hq : W.cells? base (x.add i) 1 with
        | none => rw [hq] at h1; cases h1
        | some cs =>
          rw [hq] at h1
          simp only [Option.bind_some] at h1
          obtain ⟨_, hclen, hcell⟩ := World.cells?_some hq
          obtain ⟨v, rfl⟩ : ∃ v, cs = [v] := by
            match cs, hclen with
            | [v], _ => exact ⟨v, rfl⟩
          have h0 := hcell 0 (by omega)
          simp at h0
          have ha0 : (x.add i).add 0 = x.add i := by unfold Addr.add; simp
          have hform : ∃ A m c, v = .slice A m c := by
            rcases DataW.trod_slice he h1 with ⟨hcs, _⟩ | ⟨y, m, c, _, _, _, _, hcs, _⟩
            · exact ⟨none, 0, 0, by simpa using hcs⟩
            · exact ⟨some y, m, c, by simpa using hcs⟩
          obtain ⟨A, m, c, rfl⟩ := hform
          have tr : DataW.Trod enc P W base spare held e (.slice A m c) elems[i].1 elems[i].2 := ⟨n, h1⟩
          obtain ⟨l, rfl, hlc, hr⟩ := open_bytes he he2 hc2 tr
          have hnil := open_bytes_nil he he2 hc2 tr
          exact ⟨l, fun _ => ⟨_, by first | exact h0 | (rw [← ha0]; exact h0), A, c, rfl, hlc, hr, hnil⟩⟩
      · exact ⟨[], fun h => absurd h hi⟩
    obtain ⟨f, hf⟩ := Classical.axiomOfChoice each
    refine ⟨(List.range len).map f, by simp, by simpa using hl, by simp; unfold maxLen at hm; omega, fun j hj => ?_⟩
    have hj' : j < len := by simpa using hj
    obtain ⟨v, hv, hE⟩ := hf j hj'
    exact ⟨x, v, rfl, hv, by simpa using hE⟩
end Go.Proofs.Ytpdigpfjmpaooaa
