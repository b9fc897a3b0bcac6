import Derived.Test.YtpdigpfjmpaooaaT
/-! Rows of chunks put behind one another. -/
namespace Go.Proofs.Ytpdigpfjmpaooaa
open Go.RowKit
set_option linter.unusedVariables false
set_option linter.unusedSimpArgs false
theorem run_append_rows {w : World} (base : Nat) (ty : TypeId) (v v2 : Value) (ps qs : List (List (BitVec 8))) (h1 : OwnP w base v ps) (h2 : OwnP w base v2 qs) (hmax : ps.length + qs.length ≤ 1048576) (hb : base ≤ w.heap.size) :
    ∃ v' w', (Builtin.append_ #[42, 42] ty #[v, v2]).run Try.prog w = .ok v' w' ∧ OwnP w' base v' (ps ++ qs) ∧ w.grownBy w' v.ownBlock := by
  obtain ⟨i0, hi, hz0, hz1, hz2⟩ := info_parts info24
  obtain ⟨vs, a1, a2⟩ := id h1
  obtain ⟨us, b1, b2⟩ := h2
  rcases Joins.ownsRow_forms b1 with ⟨rfl, h0⟩ | ⟨g, cap, rfl⟩
  · obtain rfl : qs = [] := List.eq_nil_of_length_eq_zero (by omega)
    refine ⟨v, w, run_append_owned_none (P := Try.prog) w base 42 ty 24 i0 1 Try.underlying42 hi v ps.length vs a1, by simpa using h1, ⟨rfl, rfl, rfl, Nat.le_refl _, fun _ _ _ => rfl⟩⟩
  · have hul : us.length = qs.length := by have := b1.1; omega
    have hone : ∀ u ∈ us, u.oneCell' = true := by
      intro u hu
      obtain ⟨j, hj, rfl⟩ := List.getElem_of_mem hu
      obtain ⟨u', e, _, ho⟩ := b2 j (by omega)
      rw [List.getElem?_eq_getElem hj] at e
      obtain ⟨A, c, hA, _⟩ := own_bytes ho
      rw [Option.some.inj e, hA]; rfl
    obtain ⟨v', w', hrun, own, grow, _⟩ := run_append_own (P := Try.prog) w base 42 ty 24 i0 (.slice none 0 0) 1 24 Try.underlying42 hi hz0 hz1 hz2 rfl (by decide) v ps.length vs a1 ⟨g, 0, none⟩ qs.length cap us (by omega) (fun j u hj => b1.cells (g := g) rfl j u hj) hone (by unfold maxLen; omega) (by omega) hb
    have hvl : vs.length = ps.length := by have := a1.1; omega
    refine ⟨v', w', hrun, ⟨vs ++ us, by simpa using own, fun j hj => ?_⟩, grow⟩
    rcases Nat.lt_or_ge j ps.length with hlt | hge
    · obtain ⟨x, a, b, c⟩ := a2 j hlt
      refine ⟨x, by rw [List.getElem?_append_left (by omega)]; exact a, b, ?_⟩
      rw [List.getElem_append_left hlt]
      exact c.kept grow (own_ne c a1 (by decide))
    · have hj2 : j - ps.length < qs.length := by rw [List.length_append] at hj; omega
      obtain ⟨x, a, b, c⟩ := b2 (j - ps.length) hj2
      refine ⟨x, by rw [List.getElem?_append_right (by omega), hvl]; exact a, b, ?_⟩
      rw [List.getElem_append_right hge]
      exact c.kept grow (own_ne c a1 (by decide))
theorem wpList_append_rows {w : World} {ops : Array Oper} {rest : List Oper} {o : Oper} {a : Act} {Q : Exit → Act → World → Prop} (hgd : o.guard = none) (s x : Operand) (ho : o.op = .call { callee := .builtin .append, args := #[s, x], argTypes := #[42, 42] })
    (base : Nat) (v v2 : Value) (ps qs : List (List (BitVec 8))) (hs : a.eval s = v) (h1 : OwnP w base v ps) (hx : a.eval x = v2) (h2 : OwnP w base v2 qs) (hmax : ps.length + qs.length ≤ 1048576) (hb : base ≤ w.heap.size)
    (h : ∀ v' w', OwnP w' base v' (ps ++ qs) → w.grownBy w' v.ownBlock → wpList Try.prog ops Q rest (a.put o.dst v') w') : wpList Try.prog ops Q (o :: rest) a w :=
  wpList_plain hgd fun K hK => by
    obtain ⟨v', w', hrun, h3, h4⟩ := run_append_rows base o.type v v2 ps qs h1 h2 hmax hb
    unfold Oper.wp execOp
    simp only [ho, resolve, invoke, builtin, Sem.run_bind, Sem.run_pure, Result.andThen_ok, List.map_toArray, List.map_cons, List.map_nil, hs, hx, hrun]
    exact hK _ _ (h v' w' h3 h4)
theorem OwnP.kinds {W : World} {base : Nat} {v : Value} {ps : List (List (BitVec 8))} (h : OwnP W base v ps) : ∀ g, v.ownBlock = some g → base ≤ g ∧ ∃ c fz, W.heap[g]? = some (.cells c 24 fz) := by
  intro g hg
  obtain ⟨vs, h1, _⟩ := h
  refine ⟨own_base' h1 g hg, ?_⟩
  obtain ⟨c, fz, hc⟩ := ownsRow_cells h1 g hg
  exact ⟨c, fz, hc⟩
theorem Besides.grown {L : List Nat} {A W W' : World} (h : Besides L A W) {row : Option Nat} (hg : W.grownBy W' row) (hr : ∀ g, row = some g → A.heap.size ≤ g ∧ ∃ c e fz, W.heap[g]? = some (.cells c e fz)) : Besides L A W' := by
  have hs := h.size
  refine ⟨hg.os.trans h.os, hg.tape.trans h.tape, hg.output.trans h.output, fun k hk hl => (hg.block k (by omega) (fun e => by have := (hr k e.symm).1; omega)).trans (h.block k hk hl), h.others.trans (KeepsOthers.of_grownBy hg (fun j o e ho' => ?_))⟩
  obtain ⟨_, c, e2, fz, hc⟩ := hr j e
  rw [hc] at ho'
  cases ho'; rfl
/-- A cutter, while a row of chunks grows. -/
theorem CutAt.grown {W W' : World} {g : Nat} {le mo bi : Int} {L : List (BitVec 8)} (h : CutAt W g le mo bi L) {row : Option Nat} (hg : W.grownBy W' row) (hr : ∀ k, row = some k → ∃ c fz, W.heap[k]? = some (.cells c 24 fz)) : CutAt W' g le mo bi L := by
  obtain ⟨v, hk, ho, c, fz, hc⟩ := h
  have hne : some g ≠ row := fun e => by
    obtain ⟨c2, fz2, h2⟩ := hr g e.symm
    rw [hc] at h2; cases h2
  have hgb := hg.block g (Array.getElem?_eq_some_iff.1 hc).1 hne
  refine ⟨v, fun q hq => ?_, ho.kept hg ?_, c, fz, hgb.trans hc⟩
  · have hq2 := hk q hq
    have : q.1.block = g := by
      simp only [List.mem_cons, List.not_mem_nil, or_false] at hq
      rcases hq with rfl | rfl | rfl | rfl <;> rfl
    exact ⟨(World.cell?_of_block (by rw [this]; exact hgb)).trans hq2.1, (World.frozen?_of_block (by rw [this]; exact hgb)).trans hq2.2⟩
  · cases hv : v.ownBlock with
    | none => exact Or.inl rfl
    | some k =>
      right
      intro e
      obtain ⟨c2, fz2, h2⟩ := ownsRow_cells ho k hv
      obtain ⟨c3, fz3, h3⟩ := hr k e.symm
      rw [h2] at h3; cases h3
end Go.Proofs.Ytpdigpfjmpaooaa
