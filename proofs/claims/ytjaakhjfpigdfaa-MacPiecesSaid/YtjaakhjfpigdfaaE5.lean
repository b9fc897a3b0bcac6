import Derived.Test.YtjaakhjfpigdfaaE3
import Derived.Test.YtjaakhjfpigdfaaV5
/-! Appends of one row, and which block grows. -/
namespace Go.Proofs.Ytjaakhjfpigdfaa
open Go.RowKit
set_option linter.unusedVariables false
set_option linter.unusedSimpArgs false
/-- The same of one row that lies in a block of its own. -/
theorem wp_append_row1G {w0 w : World} {o : Oper} {a : Act} {K : Act → World → Prop} {Q : Exit → Act → World → Prop} (s x : Operand) (ho : o.op = .call { callee := .builtin .append, args := #[s, x], argTypes := #[22, 22] })
    (base : Nat) (v : Value) (ps : List By) (hs : a.eval s = v) (hown : OwnP w0 w base v ps) (g : Nat) (p : By) (u : Value) (hx : a.eval x = .slice (some ⟨g, 0, none⟩) 1 1) (hc : w.cell? ⟨g, 0, none⟩ = some u) (hu : EqN w0 p u) (hmax : (ps.length + 1) * 24 ≤ 140737488355328) (hb : base ≤ w.heap.size)
    (h : ∀ v' w', OwnP w0 w' base v' (ps ++ [p]) → Below base w w' → w.grownBy w' v.ownBlock → K (a.put o.dst v') w') : o.wp Try.prog a w K Q := by
  obtain ⟨i0, hi, hz0, hz1, hz2⟩ := info_parts info35
  obtain ⟨vs, hov, he⟩ := hown
  have hl : vs.length = ps.length := by have := hov.1; simpa using this
  obtain ⟨A, n, c, rfl⟩ : ∃ A n c, u = .slice A n c := by obtain ⟨A, c, e, _⟩ := hu; exact ⟨A, _, c, e⟩
  obtain ⟨v', w', h1, h2, h3, h4⟩ := run_append_own (P := Try.prog) w base 22 o.type 35 i0 (.slice none 0 0) 1 24 Try.underlying22 hi hz0 hz1 hz2 rfl (by decide) v ps.length vs hov ⟨g, 0, none⟩ 1 1 [.slice A n c] rfl (fun j u' hj => by
      match j, hj with
      | 0, hj => simp at hj; subst hj; rw [add_zero_off]; exact hc) (oneSlice A n c) (by unfold maxLen; omega) (by omega) hb
  have hO : OwnP w0 w' base v' (ps ++ [p]) := by
    refine ⟨vs ++ [.slice A n c], by rw [List.length_append]; exact h2, fun j hj => ?_⟩
    rw [List.length_append] at hj
    by_cases hlt : j < ps.length
    · obtain ⟨u', h1, h2⟩ := he j hlt
      refine ⟨u', by rw [List.getElem?_append_left (by omega)]; exact h1, ?_⟩
      rw [List.getD_eq_getElem?_getD, List.getElem?_append_left hlt, ← List.getD_eq_getElem?_getD]
      exact h2
    · have e : j = ps.length := by simp at hj; omega
      subst e
      refine ⟨.slice A n c, by rw [← hl]; simp, ?_⟩
      rw [List.getD_eq_getElem?_getD, List.getElem?_append_right (Nat.le_refl _)]
      simpa using hu
  unfold Oper.wp execOp
  simp only [ho, resolve, invoke, builtin, Sem.run_bind, Sem.run_pure, Result.andThen_ok, List.map_toArray, List.map_cons, List.map_nil, hs, hx, h1]
  exact h v' w' hO ((Below.refl base w).grown h3 hb (own_base' hov)) h3
theorem wpList_append_row1G {w0 w : World} {ops : Array Oper} {rest : List Oper} {o : Oper} {a : Act} {Q : Exit → Act → World → Prop} (hgd : o.guard = none) (s x : Operand) (ho : o.op = .call { callee := .builtin .append, args := #[s, x], argTypes := #[22, 22] })
    (base : Nat) (v : Value) (ps : List By) (hs : a.eval s = v) (hown : OwnP w0 w base v ps) (g : Nat) (p : By) (u : Value) (hx : a.eval x = .slice (some ⟨g, 0, none⟩) 1 1) (hc : w.cell? ⟨g, 0, none⟩ = some u) (hu : EqN w0 p u) (hmax : (ps.length + 1) * 24 ≤ 140737488355328) (hb : base ≤ w.heap.size)
    (h : ∀ v' w', OwnP w0 w' base v' (ps ++ [p]) → Below base w w' → w.grownBy w' v.ownBlock → wpList Try.prog ops Q rest (a.put o.dst v') w') : wpList Try.prog ops Q (o :: rest) a w :=
  wpList_plain hgd fun _ hK => wp_append_row1G s x ho base v ps hs hown g p u hx hc hu hmax hb fun v' w' h2 h3 h4 => hK _ _ (h v' w' h2 h3 h4)
theorem OwnP.lt {w0 w : World} {base : Nat} {v : Value} {ps : List By} (h : OwnP w0 w base v ps) : ∀ ga, v.ownBlock = some ga → ga < w.heap.size := by obtain ⟨_, ho, _⟩ := h; exact own_lt ho
theorem OwnP.bes {w0 w w' : World} {base h : Nat} {v : Value} {ps : List By} (hp : OwnP w0 w base v ps) (hh : h < base) (hb : Bes h w w') : OwnP w0 w' base v ps := by obtain ⟨vs, ho, he⟩ := hp; exact ⟨vs, own_bes ho hh hb, he⟩
theorem MacF.grownP {w0 w w' : World} {g h B base : Nat} {k l : By} {v : Value} {ps : List By} (hm : MacF w g h k l B) (hown : OwnP w0 w base v ps) (hg : g < base) (hh : h < base) (hB : ∀ ga, v.ownBlock = some ga → ga < B) (hgr : w.grownBy w' v.ownBlock) : MacF w' g h k l B := by obtain ⟨_, ho, _⟩ := hown; exact hm.grown ho hg hh hB hgr
theorem MacAt.mf {w : World} {g h : Nat} {k l : By} (hm : MacAt w g h k l) : MacF w g h k l 0 := by
  obtain ⟨h1, ⟨lv, h2, h3⟩, h4⟩ := hm
  exact ⟨h1, ⟨lv, h2, h3, fun _ _ => Nat.zero_le _⟩, h4⟩
end Go.Proofs.Ytjaakhjfpigdfaa
