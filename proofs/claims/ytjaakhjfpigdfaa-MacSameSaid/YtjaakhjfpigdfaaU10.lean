import Derived.Test.YtjaakhjfpigdfaaU9
import Derived.Test.YtjaakhjfpigdfaaV4
import Derived.Great.BuildSlice
/-! Appends of rows of slices; the empty literal. -/
namespace Go.Proofs.Ytjaakhjfpigdfaa
open Go.RowKit
set_option linter.unusedVariables false
set_option linter.unusedSimpArgs false
theorem wp_buildSlice0 {P : Program} {o : Oper} {a : Act} {w : World} {K : Act → World → Prop} {Q : Exit → Act → World → Prop} (t e : TypeId) (ho : o.op = .buildSlice t 0 #[]) (ie : TypeInfo)
    (hu : P.underlying t = some (.slice e)) (hie : P.info? e = some ie) (h : K (a.put o.dst (.slice (some ⟨w.heap.size, 0, none⟩) 0 0)) (w.alloc (.cells #[] e))) : o.wp P a w K Q := by
  unfold Oper.wp execOp
  simp [ho, Instr.buildSlice, run_underlying hu, sizeOf, typeInfo, hie, newRow, Instr.fill]
  rw [show (Array.range 0) = (#[] : Array Nat) from rfl, Array.map_empty]
  exact h
theorem wpList_buildSlice0 {P : Program} {ops : Array Oper} {rest : List Oper} {o : Oper} {a : Act} {w : World} {Q : Exit → Act → World → Prop} (hg : o.guard = none) (t e : TypeId) (ho : o.op = .buildSlice t 0 #[]) (ie : TypeInfo)
    (hu : P.underlying t = some (.slice e)) (hie : P.info? e = some ie) (h : wpList P ops Q rest (a.put o.dst (.slice (some ⟨w.heap.size, 0, none⟩) 0 0)) (w.alloc (.cells #[] e))) : wpList P ops Q (o :: rest) a w :=
  wpList_plain hg fun _ hK => wp_buildSlice0 t e ho ie hu hie (hK _ _ h)
theorem own_zero {w : World} {g base : Nat} {e : TypeId} (hg : w.heap[g]? = some (.cells #[] e (0, 0))) (hb : base ≤ g) : w.ownsRow base e 1 (.slice (some ⟨g, 0, none⟩) 0 0) 0 [] :=
  ⟨rfl, .inr ⟨g, 0, #[], rfl, hb, hg, Nat.le_refl _, by decide, rfl, rfl⟩⟩
theorem rdN_pick {w : World} {ad : Addr} {ps : List By} (h : RdN w (some ad) ps) : ∃ us : List Value, us.length = ps.length ∧ (∀ j, j < ps.length → ∃ u, us[j]? = some u ∧ w.cell? (ad.add j) = some u ∧ EqN w (ps.getD j []) u) := by
  have hc : ∀ j, ∃ u, j < ps.length → w.cell? (ad.add j) = some u ∧ EqN w (ps.getD j []) u := fun j => by
    by_cases hj : j < ps.length
    · obtain ⟨ad', u, e, h1, h2⟩ := h.at' j hj
      cases e
      exact ⟨u, fun _ => ⟨h1, h2⟩⟩
    · exact ⟨undef, fun h => absurd h hj⟩
  obtain ⟨f, hf⟩ := Classical.axiomOfChoice hc
  refine ⟨(List.range ps.length).map f, by simp, fun j hj => ⟨f j, by simp [hj], hf j hj⟩⟩
theorem run_append_rows {w0 w : World} (base : Nat) (ty : TypeId) (v : Value) (ps : List By) (hown : OwnP w0 w base v ps) (ad : Addr) (c : Nat) (qs : List By) (hr : RdN w0 (some ad) qs) (hb0 : Below w0.heap.size w0 w) (hc : qs.length ≤ c) (hmax : (ps.length + qs.length) * 24 ≤ 140737488355328) (hb : base ≤ w.heap.size) :
    ∃ v' w', (Builtin.append_ #[22, 22] ty #[v, .slice (some ad) qs.length c]).run Try.prog w = .ok v' w' ∧ OwnP w0 w' base v' (ps ++ qs) ∧ Below base w w' ∧ w.grownBy w' v.ownBlock := by
  obtain ⟨i0, hi, hz0, hz1, hz2⟩ := info_parts info35
  obtain ⟨vs, hov, he⟩ := hown
  have hl : vs.length = ps.length := by have := hov.1; simpa using this
  obtain ⟨us, hul, hus⟩ := rdN_pick hr
  obtain ⟨v', w', h1, h2, h3, h4⟩ := run_append_own (P := Try.prog) w base 22 ty 35 i0 (.slice none 0 0) 1 24 Try.underlying22 hi hz0 hz1 hz2 rfl (by decide) v ps.length vs hov ad qs.length c us (by omega) (fun j u hj => by
      have hjl : j < qs.length := by have := (List.getElem?_eq_some_iff.1 hj).1; omega
      obtain ⟨u', e1, e2, _⟩ := hus j hjl
      rw [hj] at e1
      cases e1
      exact (hb0.cell (World.block_lt_of_cell? _ _ e2)).trans e2) (fun u hu => by
      obtain ⟨j, hj, e⟩ := List.getElem_of_mem hu
      obtain ⟨u', e1, _, e3⟩ := hus j (by omega)
      rw [List.getElem?_eq_getElem hj, e] at e1
      cases e1
      obtain ⟨A, c, rfl, _⟩ := e3
      rfl) (by unfold maxLen; omega) (by omega) hb
  refine ⟨v', w', h1, ⟨vs ++ us, by rw [List.length_append]; exact h2, fun j hj => ?_⟩, (Below.refl base w).grown h3 hb (own_base' hov), h3⟩
  rw [List.length_append] at hj
  by_cases hlt : j < ps.length
  · obtain ⟨u', h1, h2⟩ := he j hlt
    refine ⟨u', by rw [List.getElem?_append_left (by omega)]; exact h1, ?_⟩
    rw [List.getD_eq_getElem?_getD, List.getElem?_append_left hlt, ← List.getD_eq_getElem?_getD]
    exact h2
  · obtain ⟨u, e1, _, e3⟩ := hus (j - ps.length) (by omega)
    refine ⟨u, by rw [List.getElem?_append_right (by omega), hl]; exact e1, ?_⟩
    rw [List.getD_eq_getElem?_getD, List.getElem?_append_right (by omega), ← List.getD_eq_getElem?_getD]
    exact e3
theorem wp_append_rows {w0 w : World} {o : Oper} {a : Act} {K : Act → World → Prop} {Q : Exit → Act → World → Prop} (s x : Operand) (ho : o.op = .call { callee := .builtin .append, args := #[s, x], argTypes := #[22, 22] })
    (base : Nat) (v : Value) (ps : List By) (hs : a.eval s = v) (hown : OwnP w0 w base v ps) (ad : Addr) (c : Nat) (qs : List By) (hx : a.eval x = .slice (some ad) qs.length c) (hr : RdN w0 (some ad) qs) (hb0 : Below w0.heap.size w0 w) (hc : qs.length ≤ c) (hmax : (ps.length + qs.length) * 24 ≤ 140737488355328) (hb : base ≤ w.heap.size)
    (h : ∀ v' w', OwnP w0 w' base v' (ps ++ qs) → Below base w w' → w.grownBy w' v.ownBlock → K (a.put o.dst v') w') : o.wp Try.prog a w K Q := by
  obtain ⟨v', w', hrun, h2, h3, h4⟩ := run_append_rows base o.type v ps hown ad c qs hr hb0 hc hmax hb
  unfold Oper.wp execOp
  simp only [ho, resolve, invoke, builtin, Sem.run_bind, Sem.run_pure, Result.andThen_ok, List.map_toArray, List.map_cons, List.map_nil, hs, hx, hrun]
  exact h v' w' h2 h3 h4
/-- The same of one row that lies in a block of its own. -/
theorem wp_append_row1 {w0 w : World} {o : Oper} {a : Act} {K : Act → World → Prop} {Q : Exit → Act → World → Prop} (s x : Operand) (ho : o.op = .call { callee := .builtin .append, args := #[s, x], argTypes := #[22, 22] })
    (base : Nat) (v : Value) (ps : List By) (hs : a.eval s = v) (hown : OwnP w0 w base v ps) (g : Nat) (p : By) (u : Value) (hx : a.eval x = .slice (some ⟨g, 0, none⟩) 1 1) (hc : w.cell? ⟨g, 0, none⟩ = some u) (hu : EqN w0 p u) (hmax : (ps.length + 1) * 24 ≤ 140737488355328) (hb : base ≤ w.heap.size)
    (h : ∀ v' w', OwnP w0 w' base v' (ps ++ [p]) → Below base w w' → K (a.put o.dst v') w') : o.wp Try.prog a w K Q := by
  obtain ⟨i0, hi, hz0, hz1, hz2⟩ := info_parts info35
  obtain ⟨vs, hov, he⟩ := hown
  have hl : vs.length = ps.length := by have := hov.1; simpa using this
  obtain ⟨A, n, c, rfl⟩ : ∃ A n c, u = .slice A n c := by obtain ⟨A, c, e, _⟩ := hu; exact ⟨A, _, c, e⟩
  obtain ⟨v', w', h1, h2, h3, h4⟩ := run_append_own (P := Try.prog) w base 22 o.type 35 i0 (.slice none 0 0) 1 24 Try.underlying22 hi hz0 hz1 hz2 rfl (by decide) v ps.length vs hov ⟨g, 0, none⟩ 1 1 [.slice A n c] rfl (fun j u' hj => by
      match j, hj with
      | 0, hj => simp at hj; subst hj; rw [add_zero_off]; exact hc) (oneSlice A n c) (by unfold maxLen; omega) (by omega) hb
  have hO : OwnP w0 w' base v' (ps ++ [p]) := by
    refine ⟨vs ++ [.slice A n c], by rw [List.length_append]; exact h2, fun j hj => ?_⟩
    rw [List.length_append] at hj
    by_cases hlt : j < ps.length
    · obtain ⟨u', h1, h2⟩ := he j hlt
      refine ⟨u', by rw [List.getElem?_append_left (by omega)]; exact h1, ?_⟩
      rw [List.getD_eq_getElem?_getD, List.getElem?_append_left hlt, ← List.getD_eq_getElem?_getD]
      exact h2
    · have e : j = ps.length := by simp at hj; omega
      subst e
      refine ⟨.slice A n c, by rw [← hl]; simp, ?_⟩
      rw [List.getD_eq_getElem?_getD, List.getElem?_append_right (Nat.le_refl _)]
      simpa using hu
  unfold Oper.wp execOp
  simp only [ho, resolve, invoke, builtin, Sem.run_bind, Sem.run_pure, Result.andThen_ok, List.map_toArray, List.map_cons, List.map_nil, hs, hx, h1]
  exact h v' w' hO ((Below.refl base w).grown h3 hb (own_base' hov))
set_option maxRecDepth 100000 in
theorem slice22 (A : Option Addr) (n c k : Nat) (hk : k ≤ c) (w : World) : (Instr.sliceAt 22 (.slice A n c) none (some (.int .i64 (k : Int))) none).run Try.prog w = .ok (.slice A k c) w := by
  have h : (k : Int) ≤ (c : Int) := by omega
  rw [run_sliceAt_slice w 22 _ _ _ _ Try.underlying22]
  rw [run_slice_h w 22 A n c Try.underlying22 .i64 k (by omega) h]
  simp [go_sem, Try.underlying22]
end Go.Proofs.Ytjaakhjfpigdfaa
