import Derived.Test.YtglbcejcibohpaaR
import Derived.Test.YtglbcejcibohpaaB
import Derived.Deep.Slices
import Derived.ChangeSame
/-! What came in, opened: rows of extents. -/
namespace Go.Proofs.Ytglbcejcibohpaa
open Go.ChangeShapes Go.WideShapes Go.ChangeAt Go.RowKit Go.Deep
set_option linter.unusedVariables false
theorem exts_of : ∀ {m : Nat} {f : Nat → Ext → Prop}, (∀ i, i < m → ∃ t, f i t) → ∃ l : List Ext, l.length = m ∧ ∀ i (h : i < l.length), f i l[i]
  | 0, f, _ => ⟨[], rfl, fun i h => by simp at h⟩
  | m + 1, f, h => by
    obtain ⟨l, hl, hf⟩ := exts_of (m := m) (f := f) (fun i hi => h i (by omega))
    obtain ⟨t, ht⟩ := h m (by omega)
    refine ⟨l ++ [t], by simp [hl], fun i hi => ?_⟩
    rw [List.getElem_append]
    split
    · exact hf i _
    · have : i = m := by simp at hi; omega
      subst this
      simpa using ht
/-- A slice of structs of two integers. -/
theorem open_exts {H : Type} {enc : TypeId × Value → H} {P : Program} {W : World} {base : Nat} {spare : Nat → Bool} {held : Bool} {t e : TypeId} {f0 f1 : Field} {a : Option Addr} {len cap : Nat} {d : DataW H} {ps : List MemPlace}
    (ht : P.underlying t = some (.slice e)) (he : P.underlying e = some (.struct #[f0, f1])) (h0 : P.underlying f0.type = some (.int .i64)) (h1 : P.underlying f1.type = some (.int .i64))
    (o0 : f0.offset = 0) (o1 : f1.offset = 1) (k0 : P.cellsOf f0.type = 1) (k1 : P.cellsOf f1.type = 1) (hC : P.cellsOf e = 2)
    (h : DataW.Trod enc P W base spare held t (.slice a len cap) d ps) : ∃ l : List Ext, len = l.length ∧ l.length ≤ cap ∧ RdE W a l := by
  obtain ⟨fuel, hf⟩ := h
  rcases open_slice ht hf with ⟨hcs, _⟩ | ⟨x, len', cap', m, n, D, Pl, hcs, _, hl, hm, hmm, _, hi⟩
  · simp [Value.cells] at hcs
    obtain ⟨rfl, rfl, rfl⟩ := hcs
    exact ⟨[], rfl, by simp, by simp, fun j hj => by simp at hj⟩
  · simp [Value.cells] at hcs
    obtain ⟨rfl, rfl, rfl⟩ := hcs
    have hml : len ≤ m := by rw [hmm]; split <;> omega
    rw [hC] at hi
    obtain ⟨l, hlen, hl2⟩ := exts_of (m := len) (f := fun i t => W.cell? ((x.add (i * 2)).add 0) = some (.int .i64 t.1) ∧ W.cell? ((x.add (i * 2)).add 1) = some (.int .i64 t.2) ∧ I64 t.1 ∧ I64 t.2) (fun i hi2 => by
      obtain ⟨cs, hcells, htr⟩ := hi i (by omega)
      obtain ⟨_, hlc, hat⟩ := World.cells?_some hcells
      obtain ⟨xs, n', _, _, _, hlx, hfld⟩ := DataW.trod_struct he htr
      match cs, hlc with
      | [c0, c1], _ =>
        match xs, hlx with
        | [y0, y1], _ =>
          have t0 := hfld 0 f0 rfl
          have t1 := hfld 1 f1 rfl
          rw [o0, k0] at t0
          rw [o1, k1] at t1
          obtain ⟨z0, e0, _, w0⟩ := DataW.trod_int h0 t0
          obtain ⟨z1, e1, _, w1⟩ := DataW.trod_int h1 t1
          have a0 := hat 0 (by omega)
          have a1 := hat 1 (by omega)
          simp at e0 e1
          subst e0 e1
          exact ⟨(z0, z1), a0, a1, bv_i64 w0, bv_i64 w1⟩)
    refine ⟨l, hlen.symm, by omega, by unfold maxLen at hm; omega, fun j hj => ?_⟩
    obtain ⟨c0, c1, i0, i1⟩ := hl2 j hj
    exact ⟨x, rfl, by simpa [Addr.add] using c0, by simpa [Addr.add] using c1, i0, i1⟩
end Go.Proofs.Ytglbcejcibohpaa
