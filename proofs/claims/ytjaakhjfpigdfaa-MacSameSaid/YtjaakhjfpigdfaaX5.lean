import Derived.Test.YtjaakhjfpigdfaaX4
import Derived.Test.YtjaakhjfpigdfaaU10
/-! Rows of blocks; slices of arrays; a row of one's own beside a block that changes. -/
namespace Go.Proofs.Ytjaakhjfpigdfaa
open Go.RowKit
set_option linter.unusedVariables false
set_option linter.unusedSimpArgs false
theorem own_row_other {w : World} {base n g size : Nat} {e : TypeId} {v : Value} {xs : List Value} (h : w.ownsRow base e size v n xs) (hg : g < base) (cs : Array Value) : (w.setRow g cs).ownsRow base e size v n xs := by
  refine ⟨h.1, ?_⟩
  rcases h.2 with h0 | ⟨g', cap, cur, e1, hb, hg', h1, h2, h3, h4⟩
  · exact .inl h0
  · exact .inr ⟨g', cap, cur, e1, hb, by rw [setRow_other _ _ _ _ (by omega)]; exact hg', h1, h2, h3, h4⟩
theorem add_add (a : Addr) (i j : Nat) : (a.add i).add j = a.add (i + j) := by
  unfold Addr.add
  by_cases h1 : i = 0 <;> by_cases h2 : j = 0 <;> simp [h1, h2, Nat.add_assoc]
theorem RdBlk.below {w w' : World} {n : Nat} {A : Option Addr} {bs : List By} (h : RdBlk w n A bs) (hb : Below w.heap.size w w') : RdBlk w' n A bs :=
  ⟨h.1, fun j hj => by
    obtain ⟨a, e, hl, hc⟩ := h.2 j hj
    exact ⟨a, e, hl, fun k hk => (hb.cell (World.block_lt_of_cell? _ _ (hc k hk))).trans (hc k hk)⟩⟩
theorem RdBlk.take {w : World} {n : Nat} {A : Option Addr} {bs : List By} (h : RdBlk w n A bs) (m : Nat) : RdBlk w n A (bs.take m) :=
  ⟨by have := h.1; have := List.length_take_le' m bs; omega, fun j hj => by
    have hj' : j < bs.length := by rw [List.length_take] at hj; omega
    have hjm : j < m := by rw [List.length_take] at hj; omega
    obtain ⟨a, e, hl, hc⟩ := h.2 j hj'
    have e2 : (bs.take m).getD j [] = bs.getD j [] := by rw [List.getD_eq_getElem?_getD, List.getD_eq_getElem?_getD, List.getElem?_take_of_lt hjm]
    rw [e2]
    exact ⟨a, e, hl, hc⟩⟩
/-- A block as bytes to be read. -/
theorem RdBlk.rd {w : World} {A : Option Addr} {bs : List By} (h : RdBlk w 64 A bs) (j : Nat) (hj : j < bs.length) : ∃ a, A = some a ∧ (bs.getD j []).length = 64 ∧ RdB w (some (a.add (j * 64))) (bs.getD j []) := by
  obtain ⟨a, e, hl, hc⟩ := h.2 j hj
  refine ⟨a, e, hl, by rw [hl]; decide, fun k hk => ⟨_, .int .u8 ((bs.getD j [])[k].toNat : Int), rfl, ?_, ?_⟩⟩
  · rw [add_add]
    have := hc k (by omega)
    rw [show (bs.getD j []).getD k 0 = (bs.getD j [])[k] from by generalize bs.getD j [] = q at hk; rw [List.getD_eq_getElem?_getD, List.getElem?_eq_getElem hk]; rfl] at this
    exact this
  · rfl
theorem RdB.v8 {w : World} {a : Addr} {p : By} (h : RdB w (some a) p) : ∀ j v, (V8 p)[j]? = some v → w.cell? (a.add j) = some v := fun j v hv => by
  have hj : j < p.length := by have := (Array.getElem?_eq_some_iff.1 hv).1; rw [V8_size] at this; exact this
  obtain ⟨a', e, hc⟩ := h.at' j hj
  cases e
  rw [V8_at p j hj] at hv
  rw [hc, ← hv, List.getD_eq_getElem?_getD, List.getElem?_eq_getElem hj]
  rfl
set_option maxRecDepth 100000 in
theorem slice41 (A : Option Addr) (n c k : Nat) (hk : k ≤ c) (w : World) : (Instr.sliceAt 41 (.slice A n c) none (some (.int .i64 (k : Int))) none).run Try.prog w = .ok (.slice A k c) w := by
  have h : (k : Int) ≤ (c : Int) := by omega
  rw [run_sliceAt_slice w 41 _ _ _ _ Try.underlying41]
  rw [run_slice_h w 41 A n c Try.underlying41 .i64 k (by omega) h]
  simp [go_sem, Try.underlying41]
set_option maxRecDepth 100000 in
theorem slice32 (a : Addr) (w : World) : (Instr.sliceAt 32 (.pointer (some a)) none none none).run Try.prog w = .ok (.slice (some a) 64 64) w := by
  simp [go_sem, Instr.sliceAt, Try.underlying32]
set_option maxRecDepth 100000 in
theorem idx41 (ad : Addr) (n c i : Nat) (h : i < n) (w : World) : (do pure (Next.value (← Instr.indexAt 41 (.slice (some ad) n c) (.int .i64 (i : Int)))) : Sem Next).run Try.prog w = .ok (.value (.pointer (some (ad.add (i * 64))))) w := by
  have h2 : (i : Int) < (n : Int) := by omega
  simp [go_sem, h2]
end Go.Proofs.Ytjaakhjfpigdfaa
