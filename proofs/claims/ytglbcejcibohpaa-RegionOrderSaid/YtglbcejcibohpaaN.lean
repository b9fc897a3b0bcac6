import Derived.Test.YtglbcejcibohpaaL
/-! awake. -/
namespace Go.Proofs.Ytglbcejcibohpaa
open Go.RowKit
set_option linter.unusedVariables false
set_option linter.unusedSimpArgs false
theorem awake_take : takeC 10 [(0, 3), (5, 5)] 4 = ((5, 4), [(0, 3), (9, 1)], 0) := by decide +kernel
theorem awake_give : giveC 10 [(0, 3), (5, 5)] (3, 2) = ([(0, 10)], 0) := by decide +kernel
theorem allI_small {l : List Ext} (h : ∀ e ∈ l, 0 ≤ e.1 ∧ e.1 ≤ 5000 ∧ 0 ≤ e.2 ∧ e.2 ≤ 5000) : AllI l := fun e he => by
  have := h e he
  exact ⟨⟨by omega, by omega⟩, ⟨by omega, by omega⟩⟩
theorem own_slice {w : World} {B e size n : Nat} {v : Value} {xs : List Value} (h : w.ownsRow B e size v n xs) : ∃ A c, v = .slice A n c ∧ n ≤ c := by
  rcases h.2 with ⟨rfl, rfl⟩ | ⟨g', cap, cur, rfl, _, _, hc, _⟩
  · exact ⟨none, 0, rfl, Nat.le_refl _⟩
  · exact ⟨_, cap, rfl, hc⟩
set_option maxRecDepth 100000 in
set_option maxHeartbeats 4000000 in
theorem awake_any (w : World) : Calls Try.prog 14 #[] w fun e w' => e = .returned (.bool true) ∧ Below w.heap.size w w' := by
  have b1 : Below w.heap.size w (w.alloc (.cells #[.int .i64 0, .int .i64 3, .int .i64 5, .int .i64 5] 25)) := (Below.refl _ _).alloc (Nat.le_refl _) _
  have ho := own_two (w := w) (B := w.heap.size) (g := w.heap.size) (e := 25) (0, 3) (5, 5) (Nat.le_refl _) rfl
  obtain ⟨A, c, e, hl, hr⟩ := RdE.own (l := [(0, 3), (5, 5)]) ho (allI_small (by decide))
  simp only [Value.slice.injEq] at e
  obtain ⟨rfl, _, rfl⟩ := e
  have TA := Lib.hid (take_any 10 _ _ _ 4 (w.alloc (.cells #[.int .i64 0, .int .i64 3, .int .i64 5, .int .i64 5] 25)) ⟨by omega, by omega⟩ ⟨by omega, by omega⟩ hr hl)
  rw [awake_take] at TA
  have hA : AllI [(0, 3), (5, 5)] := allI_small (by decide)
  have GI : Hid (∀ w' : World, Below w.heap.size w w' → w'.heap[w.heap.size]? = some (.cells #[.int .i64 0, .int .i64 3, .int .i64 5, .int .i64 5] 25) → Calls Try.prog 16 #[.int .i64 10, .slice (some ⟨w.heap.size, 0, none⟩) 2 2, eV 3 2] w' fun e w'' => ∃ v, e = .returned (.tuple #[v, .int .i64 0]) ∧ w''.ownsRow w'.heap.size 25 2 v 1 (extsV [(0, 10)]) ∧ Below w'.heap.size w' w'') := fun w' hb hc => by
    have := give_any 10 [(0, 3), (5, 5)] (some ⟨w.heap.size, 0, none⟩) 2 3 2 w' ⟨by omega, by omega⟩ ⟨by omega, by omega⟩ ⟨by omega, by omega⟩ ?_ (Nat.le_refl _)
    · rw [awake_give] at this
      exact this
    · refine ⟨by simp, fun j hj => ⟨_, rfl, ?_⟩⟩
      rw [add_zero_off]
      match j, hj with
      | 0, _ => exact ⟨by rw [Joins.cell_of_block hc]; rfl, by rw [Joins.cell_of_block hc]; rfl, hA _ (List.getElem_mem _)⟩
      | 1, _ => exact ⟨by rw [Joins.cell_of_block hc]; rfl, by rw [Joins.cell_of_block hc]; rfl, hA _ (List.getElem_mem _)⟩
  have hc := Lib.hid (heap_new w (.cells #[.int .i64 0, .int .i64 3, .int .i64 5, .int .i64 5] 25) w.heap.size rfl)
  clear ho hl hr
  simp only at TA
  go_enter Try.func14, Try.ntmps14
  go_upto_region 4 with (first | (go_at_call 11; refine TA.out.mono ?_; rintro e w2 ⟨v, rfl, hv, bb⟩; have hv2 := Lib.hid (own_slice hv); have b2 : Below w.heap.size w (w2.alloc (eO 5 4)) := (b1.trans (bb.mono (by simp))).alloc (b1.trans (bb.mono (by simp))).size _; have hc2 := heap_old (eO 5 4) trivial (keepH bb hc.out); have hx2 := heap_new w2 (eO 5 4) w2.heap.size rfl; clear hv bb) | (go_at_call 16; refine (GI.out _ b2 hc2).mono ?_; rintro e w3 ⟨u, rfl, hu, bb⟩; have hu3 := Lib.hid hu; have b3 : Below w.heap.size w w3 := b2.trans (bb.mono b2.size); have hx3 := Lib.hid (keepH bb hx2); clear hu bb) | fail)
  obtain ⟨A2, c2, rfl, _⟩ := hv2.out
  obtain ⟨g, cu, rfl⟩ := Joins.ownsRow_form hu3.out (by decide)
  have h0 := hu3.out.cells (g := g) rfl 0 _ rfl
  have h1 := hu3.out.cells (g := g) rfl 1 _ rfl
  rw [add_zero_off] at h0 h1
  have x0 : w3.cell? ⟨w2.heap.size, 0, none⟩ = some (.int .i64 5) := by rw [Joins.cell_of_block hx3.out]; rfl
  have x1 : w3.cell? ⟨w2.heap.size, 1, none⟩ = some (.int .i64 4) := by rw [Joins.cell_of_block hx3.out]; rfl
  clear hx3 hu3 hv2 hc hc2 hx2 TA GI b1 b2
  go_wp2
  go_ret
  exact ⟨rfl, b3⟩
end Go.Proofs.Ytglbcejcibohpaa
