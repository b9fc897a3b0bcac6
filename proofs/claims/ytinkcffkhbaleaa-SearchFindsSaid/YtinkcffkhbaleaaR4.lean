import Derived.Test.YtinkcffkhbaleaaR3
import Derived.Test.YtinkcffkhbaleaaH
import Derived.DataReads
/-! A slice of digests that came in, opened. -/
namespace Go.Proofs.Ytinkcffkhbaleaa
open Go.Deep Go.ChangeShapes Go.WideShapes Go.ChangeAt Go.RowKit
set_option linter.unusedVariables false
theorem open_digs {H : Type} {enc : TypeId × Value → H} {P : Program} {W : World} {base : Nat} {spare : Nat → Bool} {held : Bool} {t e e2 : TypeId} {a : Option Addr} {len cap : Nat} {d : DataW H} {ps : List MemPlace}
    (hu : P.underlying t = some (.slice e)) (he : P.underlying e = some (.array 32 e2)) (he2 : P.underlying e2 = some (.int .u8)) (hc : P.cellsOf e = 32) (hc2 : P.cellsOf e2 = 1)
    (h : DataW.Trod enc P W base spare held t (.slice a len cap) d ps) : ∃ l : List (List (BitVec 8)), len = l.length ∧ l.length ≤ cap ∧ RdD W a l ∧ (a = none → cap = 0) := by
  obtain ⟨fuel, hf⟩ := h
  rcases DataW.trod_slice hu hf with ⟨hcs, _⟩ | ⟨x, len', cap', elems, rest, n, _, hcs, _, hb, hl, hm, hel, hget, _⟩
  · simp [Value.cells] at hcs
    obtain ⟨rfl, rfl, rfl⟩ := hcs
    exact ⟨[], rfl, by simp, ⟨by simp, fun j hj => by simp at hj⟩, fun _ => rfl⟩
  · simp [Value.cells] at hcs
    obtain ⟨rfl, rfl, rfl⟩ := hcs
    have each : ∀ i, ∃ d : List (BitVec 8), i < len → d.length = 32 ∧ ∀ j v, (digV d)[j]? = some v → W.cell? ((x.add (i * 32)).add j) = some v := by
      intro i
      by_cases hi : i < len
      · have h1 := hget i hi
        rw [List.getElem?_eq_getElem (by omega), hc] at h1
        cases hq : W.cells? base (x.add (i * 32)) 32 with
        | none => rw [hq] at h1; cases h1
        | some cs =>
          rw [hq] at h1
          simp only [Option.bind_some] at h1
          obtain ⟨_, hclen, hcell⟩ := World.cells?_some hq
          obtain ⟨xs, m, _, _, _, hxl, hx⟩ := DataW.trod_array he h1
          have hone : ∀ k, k < 32 → ∃ z : Int, cs[k]? = some (.int .u8 z) ∧ (Lit.int .u8 z).wf = true := by
            intro k hk
            have h2 := hx k hk
            rw [List.getElem?_eq_getElem (by omega)] at h2
            obtain ⟨z, hz, _, hw⟩ := DataW.trod_int he2 h2
            rw [hc2, Nat.mul_one] at hz
            refine ⟨z, ?_, hw⟩
            have h3 : ((cs.drop k).take 1)[0]? = some (.int .u8 z) := by rw [hz]; rfl
            simpa using h3
          have zs : ∃ l : List (BitVec 8), cs = digV l ∧ l.length = 32 := by
            have e1 : cs = (cs.map fun v => match v with | .int _ z => z | _ => 0).map (Value.int .u8) := by
              apply List.ext_getElem (by simp)
              intro k h1 h2
              obtain ⟨z, hz, _⟩ := hone k (by omega)
              rw [List.getElem?_eq_getElem h1] at hz
              simp only [List.getElem_map]
              rw [Option.some.inj hz]
            obtain ⟨l, hl⟩ := bvs_u8 (zs := cs.map fun v => match v with | .int _ z => z | _ => 0) (fun z hz => by
              obtain ⟨v, hv, rfl⟩ := List.mem_map.1 hz
              obtain ⟨k, hk, rfl⟩ := List.getElem_of_mem hv
              obtain ⟨z, hz', hw⟩ := hone k (by omega)
              rw [List.getElem?_eq_getElem hk] at hz'
              rw [Option.some.inj hz']; exact hw)
            rw [hl] at e1
            refine ⟨l, e1, ?_⟩
            have := congrArg List.length e1
            simp at this; omega
          obtain ⟨l, hcl, hl32⟩ := zs
          refine ⟨l, fun _ => ⟨hl32, fun j v hv => ?_⟩⟩
          rw [← hcl] at hv
          have hj : j < cs.length := (List.getElem?_eq_some_iff.1 hv).1
          rw [hcell j (by omega)]
          exact hv
      · exact ⟨[], fun h => absurd h hi⟩
    obtain ⟨f, hf⟩ := Classical.axiomOfChoice each
    refine ⟨(List.range len).map f, by simp, by simpa using hl, ⟨by simp; unfold maxLen at hm; omega, fun j hj => ?_⟩, fun h => by cases h⟩
    have hj' : j < len := by simpa using hj
    have := hf j hj'
    refine ⟨by simpa using this.1, x, rfl, fun i v hv => this.2 i v (by simpa using hv)⟩
end Go.Proofs.Ytinkcffkhbaleaa
