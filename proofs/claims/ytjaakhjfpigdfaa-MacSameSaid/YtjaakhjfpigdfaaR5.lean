import Derived.Test.YtjaakhjfpigdfaaR3
/-! A slice of arrays of bytes, opened. -/
namespace Go.Proofs.Ytjaakhjfpigdfaa
open Go.Deep Go.ChangeShapes Go.WideShapes Go.ChangeAt Go.RowKit
set_option linter.unusedVariables false
set_option linter.unusedSimpArgs false
theorem arr_cells {H : Type} {enc : TypeId × Value → H} {P : Program} {W : World} {base : Nat} {spare : Nat → Bool} {held : Bool} {t e n fuel : Nat} {cs : List Value} {x : DataW H × List MemPlace}
    (hu : P.underlying t = some (.array n e)) (he : P.underlying e = some (.int .u8)) (hc : P.cellsOf e = 1) (hct : P.cellsOf t = n)
    (h : DataW.trod enc P W base spare held fuel t cs = some x) : ∃ l : List (BitVec 8), l.length = n ∧ ∀ k, k < n → cs[k]? = some (.int .u8 ((l.getD k 0).toNat : Int)) := by
  obtain ⟨xs, m, _, _, hl, hlen, hx⟩ := DataW.trod_array hu h
  have hcell : ∀ i, ∃ b : BitVec 8, i < n → cs[i]? = some (.int .u8 (b.toNat : Int)) := by
    intro i
    by_cases hi : i < n
    · have h1 := hx i hi
      rw [List.getElem?_eq_getElem (by omega)] at h1
      obtain ⟨z, hz, _, hw⟩ := DataW.trod_int he h1
      rw [hc, Nat.mul_one] at hz
      obtain ⟨b, rfl⟩ := bv_u8 hw
      refine ⟨b, fun _ => ?_⟩
      have h3 : ((cs.drop i).take 1)[0]? = some (.int .u8 (b.toNat : Int)) := by rw [hz]; rfl
      simpa using h3
    · exact ⟨0, fun h => absurd h hi⟩
  obtain ⟨f, hf⟩ := Classical.axiomOfChoice hcell
  refine ⟨(List.range n).map f, by simp, fun k hk => ?_⟩
  rw [hf k hk, List.getD_eq_getElem?_getD]
  simp [hk]
/-- A row of blocks of n bytes each. -/
def RdBlk (W : World) (n : Nat) (A : Option Addr) (bs : List (List (BitVec 8))) : Prop := bs.length ≤ 9223372036854775807 ∧ ∀ j, j < bs.length → ∃ a, A = some a ∧ (bs.getD j []).length = n ∧ ∀ k, k < n → W.cell? (a.add (j * n + k)) = some (.int .u8 (((bs.getD j []).getD k 0).toNat : Int))
theorem open_blocks {H : Type} {enc : TypeId × Value → H} {P : Program} {W : World} {base : Nat} {spare : Nat → Bool} {held : Bool} {t e e2 n : Nat} {a : Option Addr} {len cap : Nat} {d : DataW H} {ps : List MemPlace}
    (hu : P.underlying t = some (.slice e)) (he : P.underlying e = some (.array n e2)) (he2 : P.underlying e2 = some (.int .u8)) (hc : P.cellsOf e = n) (hc2 : P.cellsOf e2 = 1)
    (h : DataW.Trod enc P W base spare held t (.slice a len cap) d ps) : ∃ l : List (List (BitVec 8)), len = l.length ∧ l.length ≤ cap ∧ RdBlk W n a l := by
  obtain ⟨fuel, hf⟩ := h
  rcases DataW.trod_slice hu hf with ⟨hcs, _⟩ | ⟨x, len', cap', elems, rest, m, _, hcs, _, hb, hl, hm, hel, hget, _⟩
  · simp [Value.cells] at hcs
    obtain ⟨rfl, rfl, rfl⟩ := hcs
    exact ⟨[], rfl, by simp, by simp, fun j hj => by simp at hj⟩
  · simp [Value.cells] at hcs
    obtain ⟨rfl, rfl, rfl⟩ := hcs
    have each : ∀ i, ∃ l : List (BitVec 8), i < len → l.length = n ∧ ∀ k, k < n → W.cell? (x.add (i * n + k)) = some (.int .u8 ((l.getD k 0).toNat : Int)) := by
      intro i
      by_cases hi : i < len
      · have h1 := hget i hi
        rw [List.getElem?_eq_getElem (by omega), hc] at h1
        cases hq : W.cells? base (x.add (i * n)) n with
        | none => rw [hq] at h1; cases h1
        | some cs =>
          rw [hq] at h1
          simp only [Option.bind_some] at h1
          obtain ⟨_, hclen, hcell⟩ := World.cells?_some hq
          obtain ⟨l, hln, hk⟩ := arr_cells he he2 hc2 hc h1
          refine ⟨l, fun _ => ⟨hln, fun k hkn => ?_⟩⟩
          have h0 := hcell k (by omega)
          rw [hk k hkn] at h0
          have ha0 : (x.add (i * n)).add k = x.add (i * n + k) := by
            unfold Addr.add
            by_cases h1 : i * n = 0 <;> by_cases h2 : k = 0 <;> simp [h1, h2, Nat.add_assoc]
          rw [ha0] at h0
          exact h0
      · exact ⟨[], fun h => absurd h hi⟩
    obtain ⟨f, hf⟩ := Classical.axiomOfChoice each
    refine ⟨(List.range len).map f, by simp, by simpa using hl, by simp; unfold maxLen at hm; omega, fun j hj => ?_⟩
    have hj' : j < len := by simpa using hj
    obtain ⟨hv, hE⟩ := hf j hj'
    exact ⟨x, rfl, by simpa [hj'] using hv, fun k hk => by simpa [hj'] using hE k hk⟩
end Go.Proofs.Ytjaakhjfpigdfaa
