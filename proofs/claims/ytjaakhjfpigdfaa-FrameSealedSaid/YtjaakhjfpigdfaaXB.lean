import Derived.Test.YtjaakhjfpigdfaaR3
import Derived.Test.YtjaakhjfpigdfaaUA
/-! A slice of arrays of bytes, opened. -/
namespace Go.Proofs.Ytjaakhjfpigdfaa
open Go.Deep Go.ChangeShapes Go.WideShapes Go.ChangeAt Go.RowKit
set_option linter.unusedVariables false
set_option linter.unusedSimpArgs false
theorem arr_cells {H : Type} {enc : TypeId × Value → H} {P : Program} {W : World} {base : Nat} {spare : Nat → Bool} {held : Bool} {t e n fuel : Nat} {cs : List Value} {x : DataW H × List MemPlace}
    (hu : P.underlying t = some (.array n e)) (he : P.underlying e = some (.int .u8)) (hc : P.cellsOf e = 1) (hct : P.cellsOf t = n)
    (h : DataW.trod enc P W base spare held fuel t cs = some x) : ∃ l : List (BitVec 8), l.length = n ∧ ∀ k, k < n → cs[k]? = some (.int .u8 ((l.getD k 0).toNat : Int)) := by
  obtain ⟨xs, m, _, _, hl, hlen, hx⟩ := DataW.trod_array hu h
  have hcell : ∀ i, ∃ b : BitVec 8, i < n → cs[i]? = some (.int .u8 (b.toNat : Int)) := by
    intro i
    by_cases hi : i < n
    · have h1 := hx i hi
      rw [List.getElem?_eq_getElem (by omega)] at h1
      obtain ⟨z, hz, _, hw⟩ := DataW.trod_int he h1
      rw [hc, Nat.mul_one] at hz
      obtain ⟨b, rfl⟩ := bv_u8 hw
      refine ⟨b, fun _ => ?_⟩
      have h3 : ((cs.drop i).take 1)[0]? = some (.int .u8 (b.toNat : Int)) := by rw [hz]; rfl
      simpa using h3
    · exact ⟨0, fun h => absurd h hi⟩
  obtain ⟨f, hf⟩ := Classical.axiomOfChoice hcell
  refine ⟨(List.range n).map f, by simp, fun k hk => ?_⟩
  rw [hf k hk, List.getD_eq_getElem?_getD]
  simp [hk]
/-- A row of blocks of n bytes each. -/
def RdBlk (W : World) (n : Nat) (A : Option Addr) (bs : List (List (BitVec 8))) : Prop := bs.length ≤ 9223372036854775807 ∧ ∀ j, j < bs.length → ∃ a, A = some a ∧ (bs.getD j []).length = n ∧ ∀ k, k < n → W.cell? (a.add (j * n + k)) = some (.int .u8 (((bs.getD j []).getD k 0).toNat : Int))
theorem open_blocks {H : Type} {enc : TypeId × Value → H} {P : Program} {W : World} {base : Nat} {spare : Nat → Bool} {held : Bool} {t e e2 n : Nat} {a : Option Addr} {len cap : Nat} {d : DataW H} {ps : List MemPlace}
    (hu : P.underlying t = some (.slice e)) (he : P.underlying e = some (.array n e2)) (he2 : P.underlying e2 = some (.int .u8)) (hc : P.cellsOf e = n) (hc2 : P.cellsOf e2 = 1)
    (h : DataW.Trod enc P W base spare held t (.slice a len cap) d ps) : ∃ l : List (List (BitVec 8)), len = l.length ∧ l.length ≤ cap ∧ RdBlk W n a l := by
  obtain ⟨fuel, hf⟩ := h
  rcases DataW.trod_slice hu hf with ⟨hcs, _⟩ | ⟨x, len', cap', elems, rest, m, _, hcs, _, hb, hl, hm, hel, hget, _⟩
  · simp [Value.cells] at hcs
    obtain ⟨rfl, rfl, rfl⟩ := hcs
    exact ⟨[], rfl, by simp, by simp, fun j hj => by simp at hj⟩
  · simp [Value.cells] at hcs
    obtain ⟨rfl, rfl, rfl⟩ := hcs
    have each : ∀ i, ∃ l : List (BitVec 8), i < len → l.length = n ∧ ∀ k, k < n → W.cell? (x.add (i * n + k)) = some (.int .u8 ((l.getD k 0).toNat : Int)) := by
      intro i
      by_cases hi : i < len
      · have h1 := hget i hi
        rw [List.getElem?_eq_getElem (by omega), hc] at h1
        cases hq : W.cells? base (x.add (i * n)) n with
        | none => rw [hq] at h1; cases h1
        | some cs =>
          rw [hq] at h1
          simp only [Option.bind_some] at h1
          obtain ⟨_, hclen, hcell⟩ := World.cells?_some hq
          obtain ⟨l, hln, hk⟩ := arr_cells he he2 hc2 hc h1
          refine ⟨l, fun _ => ⟨hln, fun k hkn => ?_⟩⟩
          have h0 := hcell k (by omega)
          rw [hk k hkn] at h0
          have ha0 : (x.add (i * n)).add k = x.add (i * n + k) := by
            unfold Addr.add
            by_cases h1 : i * n = 0 <;> by_cases h2 : k = 0 <;> simp [h1, h2, Nat.add_assoc]
          rw [ha0] at h0
          exact h0
      · exact ⟨[], fun h => absurd h hi⟩
    obtain ⟨f, hf⟩ := Classical.axiomOfChoice each
    refine ⟨(List.range len).map f, by simp, by simpa using hl, by simp; unfold maxLen at hm; omega, fun j hj => ?_⟩
    have hj' : j < len := by simpa using hj
    obtain ⟨hv, hE⟩ := hf j hj'
    exact ⟨x, rfl, by simpa [hj'] using hv, fun k hk => by simpa [hj'] using hE k hk⟩
end Go.Proofs.Ytjaakhjfpigdfaa
/-! Blocks, and the sum of all: the plain law. -/
namespace Go.Proofs.Ytjaakhjfpigdfaa
open Go.RowKit
set_option linter.unusedVariables false
set_option linter.unusedSimpArgs false
theorem pad_full (n : Nat) : (n + (padL n).length) % 64 = 0 := by
  unfold padL
  rw [List.length_append, headB_len, tailB_len]
  unfold zN
  omega
theorem flat64 (bs : List By) (h : ∀ j, j < bs.length → (bs.getD j []).length = 64) : ∀ i, i ≤ bs.length → (bs.take i).flatten.length = 64 * i
  | 0, _ => by simp
  | i + 1, hi => by
    rw [flat_take bs i (by omega), List.length_append, flat64 bs h i (by omega), h i (by omega)]
    omega
/-- The state behind the first i blocks. -/
def stB (bs : List By) (i : Nat) : List W32 := stF (bs.take i).flatten i
theorem stB_succ (bs : List By) (h : ∀ j, j < bs.length → (bs.getD j []).length = 64) (i : Nat) (hi : i < bs.length) : stB bs (i + 1) = stepL (stB bs i) (bs.getD i []) := by
  have hl := flat64 bs h i (by omega)
  have hb := h i hi
  unfold stB
  rw [flat_take bs i hi]
  show stepL _ _ = _
  rw [stF_app _ _ i (by omega)]
  congr 1
  unfold blk
  rw [← hl, List.drop_left, ← hb, List.take_length]
theorem stB_all (bs : List By) : stB bs bs.length = stF bs.flatten bs.length := by unfold stB; rw [List.take_length]
/-- What goes on behind the blocks. -/
theorem stB_start (bs : List By) (h : ∀ j, j < bs.length → (bs.getD j []).length = 64) (R : By) : stB bs bs.length = stF (bs.flatten ++ R) bs.length := by
  have hl := flat64 bs h bs.length (Nat.le_refl _)
  rw [List.take_length] at hl
  rw [stB_all, stF_app _ _ _ (by omega)]
theorem blk_rest (F R : By) (n j : Nat) (hF : F.length = 64 * n) : blk (F ++ R) (n + j) = blk R j := by
  unfold blk
  rw [show 64 * (n + j) = F.length + 64 * j by omega, List.drop_append, show F.drop (F.length + 64 * j) = [] from List.drop_eq_nil_of_le (by omega)]
  simp
theorem sum_blocks (bs : List By) (h : ∀ j, j < bs.length → (bs.getD j []).length = 64) (b : By) (N k : Nat) (hN : N = 64 * bs.length + b.length) (hk : 64 * k = (b ++ padL N).length) : digL (stF (bs.flatten ++ (b ++ padL N)) (bs.length + k)) = sumL (bs.flatten ++ b) := by
  have hl := flat64 bs h bs.length (Nat.le_refl _)
  rw [List.take_length] at hl
  unfold sumL stL
  rw [show (bs.flatten ++ b).length = N by rw [List.length_append, hl]; omega, List.append_assoc]
  congr 2
  unfold nb
  rw [List.length_append, hl, ← hk]
  omega
theorem rest_full (b : By) (m N : Nat) (hN : N = 64 * m + b.length) : (b ++ padL N).length % 64 = 0 := by
  have := pad_full N
  rw [List.length_append]
  omega
end Go.Proofs.Ytjaakhjfpigdfaa
/-! Rows of blocks; slices of arrays; a row of one's own beside a block that changes. -/
namespace Go.Proofs.Ytjaakhjfpigdfaa
open Go.RowKit
set_option linter.unusedVariables false
set_option linter.unusedSimpArgs false
theorem own_row_other {w : World} {base n g size : Nat} {e : TypeId} {v : Value} {xs : List Value} (h : w.ownsRow base e size v n xs) (hg : g < base) (cs : Array Value) : (w.setRow g cs).ownsRow base e size v n xs := by
  refine ⟨h.1, ?_⟩
  rcases h.2 with h0 | ⟨g', cap, cur, e1, hb, hg', h1, h2, h3, h4⟩
  · exact .inl h0
  · exact .inr ⟨g', cap, cur, e1, hb, by rw [setRow_other _ _ _ _ (by omega)]; exact hg', h1, h2, h3, h4⟩
theorem add_add (a : Addr) (i j : Nat) : (a.add i).add j = a.add (i + j) := by
  unfold Addr.add
  by_cases h1 : i = 0 <;> by_cases h2 : j = 0 <;> simp [h1, h2, Nat.add_assoc]
theorem RdBlk.below {w w' : World} {n : Nat} {A : Option Addr} {bs : List By} (h : RdBlk w n A bs) (hb : Below w.heap.size w w') : RdBlk w' n A bs :=
  ⟨h.1, fun j hj => by
    obtain ⟨a, e, hl, hc⟩ := h.2 j hj
    exact ⟨a, e, hl, fun k hk => (hb.cell (World.block_lt_of_cell? _ _ (hc k hk))).trans (hc k hk)⟩⟩
theorem RdBlk.take {w : World} {n : Nat} {A : Option Addr} {bs : List By} (h : RdBlk w n A bs) (m : Nat) : RdBlk w n A (bs.take m) :=
  ⟨by have := h.1; have := List.length_take_le' m bs; omega, fun j hj => by
    have hj' : j < bs.length := by rw [List.length_take] at hj; omega
    have hjm : j < m := by rw [List.length_take] at hj; omega
    obtain ⟨a, e, hl, hc⟩ := h.2 j hj'
    have e2 : (bs.take m).getD j [] = bs.getD j [] := by rw [List.getD_eq_getElem?_getD, List.getD_eq_getElem?_getD, List.getElem?_take_of_lt hjm]
    rw [e2]
    exact ⟨a, e, hl, hc⟩⟩
/-- A block as bytes to be read. -/
theorem RdBlk.rd {w : World} {A : Option Addr} {bs : List By} (h : RdBlk w 64 A bs) (j : Nat) (hj : j < bs.length) : ∃ a, A = some a ∧ (bs.getD j []).length = 64 ∧ RdB w (some (a.add (j * 64))) (bs.getD j []) := by
  obtain ⟨a, e, hl, hc⟩ := h.2 j hj
  refine ⟨a, e, hl, by rw [hl]; decide, fun k hk => ⟨_, .int .u8 ((bs.getD j [])[k].toNat : Int), rfl, ?_, ?_⟩⟩
  · rw [add_add]
    have := hc k (by omega)
    rw [show (bs.getD j []).getD k 0 = (bs.getD j [])[k] from by generalize bs.getD j [] = q at hk; rw [List.getD_eq_getElem?_getD, List.getElem?_eq_getElem hk]; rfl] at this
    exact this
  · rfl
theorem RdB.v8 {w : World} {a : Addr} {p : By} (h : RdB w (some a) p) : ∀ j v, (V8 p)[j]? = some v → w.cell? (a.add j) = some v := fun j v hv => by
  have hj : j < p.length := by have := (Array.getElem?_eq_some_iff.1 hv).1; rw [V8_size] at this; exact this
  obtain ⟨a', e, hc⟩ := h.at' j hj
  cases e
  rw [V8_at p j hj] at hv
  rw [hc, ← hv, List.getD_eq_getElem?_getD, List.getElem?_eq_getElem hj]
  rfl
set_option maxRecDepth 100000 in
theorem slice41 (A : Option Addr) (n c k : Nat) (hk : k ≤ c) (w : World) : (Instr.sliceAt 41 (.slice A n c) none (some (.int .i64 (k : Int))) none).run Try.prog w = .ok (.slice A k c) w := by
  have h : (k : Int) ≤ (c : Int) := by omega
  rw [run_sliceAt_slice w 41 _ _ _ _ Try.underlying41]
  rw [run_slice_h w 41 A n c Try.underlying41 .i64 k (by omega) h]
  simp [go_sem, Try.underlying41]
set_option maxRecDepth 100000 in
theorem slice32 (a : Addr) (w : World) : (Instr.sliceAt 32 (.pointer (some a)) none none none).run Try.prog w = .ok (.slice (some a) 64 64) w := by
  simp [go_sem, Instr.sliceAt, Try.underlying32]
set_option maxRecDepth 100000 in
theorem idx41 (ad : Addr) (n c i : Nat) (h : i < n) (w : World) : (do pure (Next.value (← Instr.indexAt 41 (.slice (some ad) n c) (.int .i64 (i : Int)))) : Sem Next).run Try.prog w = .ok (.value (.pointer (some (ad.add (i * 64))))) w := by
  have h2 : (i : Int) < (n : Int) := by omega
  simp [go_sem, h2]
end Go.Proofs.Ytjaakhjfpigdfaa
