import Derived.Test.YtpdigpfjmpaooaaF
import Derived.Laws.AppendOwnNone
/-! Cutters: what they are; appends of bytes that may be nil. -/
namespace Go.Proofs.Ytpdigpfjmpaooaa
open Go.RowKit
set_option linter.unusedVariables false
set_option linter.unusedSimpArgs false
theorem info5 : (Try.prog.info? 5).map (fun i => (i.zero, i.size, i.bytes)) = some (some (.int .u8 0), 1, 1) := by kernel_rfl
theorem bytesV_app (p q : List (BitVec 8)) : bytesV (p ++ q) = bytesV p ++ bytesV q := by simp [bytesV]
theorem bytesV_len (p : List (BitVec 8)) : (bytesV p).length = p.length := by simp [bytesV]
theorem run_append_bytes {w : World} (base : Nat) (ty : TypeId) (v : Value) (n : Nat) (xs : List Value) (hown : w.ownsRow base 5 1 v n xs) (B : Option Addr) (c : Nat) (l : List (BitVec 8)) (hr : RdB w B l) (hnil : B = none → c = 0) (hc : l.length ≤ c) (hmax : n + l.length ≤ 140737488355328) (hb : base ≤ w.heap.size) :
    ∃ v' w', (Builtin.append_ #[24, 24] ty #[v, .slice B l.length c]).run Try.prog w = .ok v' w' ∧ w'.ownsRow base 5 1 v' (n + l.length) (xs ++ bytesV l) ∧ w.grownBy w' v.ownBlock ∧ (v ≠ .slice none 0 0 → v' ≠ .slice none 0 0) := by
  obtain ⟨i0, hi, hz0, hz1, hz2⟩ := info_parts info5
  rcases B with _ | ad
  · obtain rfl := hnil rfl
    obtain rfl : l = [] := List.eq_nil_of_length_eq_zero (by omega)
    refine ⟨v, w, run_append_owned_none (P := Try.prog) w base 24 ty 5 i0 1 Try.underlying24 hi v n xs hown, by simpa [bytesV] using hown, ⟨rfl, rfl, rfl, Nat.le_refl _, fun _ _ _ => rfl⟩, id⟩
  · obtain ⟨v', w', h1, h2, h3, h4⟩ := run_append_own (P := Try.prog) w base 24 ty 5 i0 (.int .u8 0) 1 1 Try.underlying24 hi hz0 hz1 hz2 rfl (by decide) v n xs hown ad l.length c (bytesV l) (by simp [bytesV]) (bytesV_cells hr) (bytesV_one l) (by unfold maxLen; omega) (by omega) hb
    exact ⟨v', w', h1, h2, h3, fun h e => h (h4.1 e).1⟩
theorem wp_append_bytes {w : World} {o : Oper} {a : Act} {K : Act → World → Prop} {Q : Exit → Act → World → Prop} (s x : Operand) (ho : o.op = .call { callee := .builtin .append, args := #[s, x], argTypes := #[24, 24] })
    (base : Nat) (v : Value) (n : Nat) (xs : List Value) (hs : a.eval s = v) (hown : w.ownsRow base 5 1 v n xs) (B : Option Addr) (c : Nat) (l : List (BitVec 8)) (hx : a.eval x = .slice B l.length c) (hr : RdB w B l) (hnil : B = none → c = 0) (hc : l.length ≤ c) (hmax : n + l.length ≤ 140737488355328) (hb : base ≤ w.heap.size)
    (h : ∀ v' w', w'.ownsRow base 5 1 v' (n + l.length) (xs ++ bytesV l) → w.grownBy w' v.ownBlock → (v ≠ .slice none 0 0 → v' ≠ .slice none 0 0) → K (a.put o.dst v') w') : o.wp Try.prog a w K Q := by
  obtain ⟨v', w', hrun, h2, h3, h4⟩ := run_append_bytes base o.type v n xs hown B c l hr hnil hc hmax hb
  unfold Oper.wp execOp
  simp only [ho, resolve, invoke, builtin, Sem.run_bind, Sem.run_pure, Result.andThen_ok, List.map_toArray, List.map_cons, List.map_nil, hs, hx, hrun]
  exact h v' w' h2 h3 h4
theorem wpList_append_bytes {w : World} {ops : Array Oper} {rest : List Oper} {o : Oper} {a : Act} {Q : Exit → Act → World → Prop} (hgd : o.guard = none) (s x : Operand) (ho : o.op = .call { callee := .builtin .append, args := #[s, x], argTypes := #[24, 24] })
    (base : Nat) (v : Value) (n : Nat) (xs : List Value) (hs : a.eval s = v) (hown : w.ownsRow base 5 1 v n xs) (B : Option Addr) (c : Nat) (l : List (BitVec 8)) (hx : a.eval x = .slice B l.length c) (hr : RdB w B l) (hnil : B = none → c = 0) (hc : l.length ≤ c) (hmax : n + l.length ≤ 140737488355328) (hb : base ≤ w.heap.size)
    (h : ∀ v' w', w'.ownsRow base 5 1 v' (n + l.length) (xs ++ bytesV l) → w.grownBy w' v.ownBlock → (v ≠ .slice none 0 0 → v' ≠ .slice none 0 0) → wpList Try.prog ops Q rest (a.put o.dst v') w') : wpList Try.prog ops Q (o :: rest) a w :=
  wpList_plain hgd fun _ hK => wp_append_bytes s x ho base v n xs hs hown B c l hx hr hnil hc hmax hb fun v' w' h2 h3 h4 => hK _ _ (h v' w' h2 h3 h4)
theorem wpListIn_append_bytes {F : Fence} {fn : Nat} {w : World} {ops : Array Oper} {rest : List Oper} {o : Oper} {a : Act} {Q : Exit → Act → World → Prop} (hgd : o.guard = none) (s x : Operand) (ho : o.op = .call { callee := .builtin .append, args := #[s, x], argTypes := #[24, 24] })
    (base : Nat) (v : Value) (n : Nat) (xs : List Value) (hs : a.eval s = v) (hown : w.ownsRow base 5 1 v n xs) (B : Option Addr) (c : Nat) (l : List (BitVec 8)) (hx : a.eval x = .slice B l.length c) (hr : RdB w B l) (hnil : B = none → c = 0) (hc : l.length ≤ c) (hmax : n + l.length ≤ 140737488355328) (hb : base ≤ w.heap.size)
    (h : ∀ v' w', w'.ownsRow base 5 1 v' (n + l.length) (xs ++ bytesV l) → w.grownBy w' v.ownBlock → (v ≠ .slice none 0 0 → v' ≠ .slice none 0 0) → wpListIn F fn Try.prog ops Q rest (a.put o.dst v') w') : wpListIn F fn Try.prog ops Q (o :: rest) a w := by
  refine wpListIn_plain hgd fun K hK' => ?_
  obtain ⟨v', w', hrun, h2, h3, h4⟩ := run_append_bytes base o.type v n xs hown B c l hr hnil hc hmax hb
  unfold Oper.wpIn
  refine ⟨?_, ?_⟩
  · simp [Oper.about, ho, resolve, Target.leads, Sem.run_pure]
  · rw [Oper.semAt_plain F _ _ (by rw [ho]; intro c hc'; cases hc')]
    simp [execOp, ho, resolve, invoke, builtin, hs, hx, hrun, Result.andThen]
    exact hK' _ _ (h v' w' h2 h3 h4)
/-- The form of a row of one's own that is not nil. -/
theorem own_form {w : World} {base size n : Nat} {e : TypeId} {v : Value} {xs : List Value} (h : w.ownsRow base e size v n xs) (hv : v ≠ .slice none 0 0) : ∃ g cap, v = .slice (some ⟨g, 0, none⟩) n cap ∧ base ≤ g := by
  rcases h.2 with ⟨h0, _⟩ | ⟨g, cap, _, hv', hb, _⟩
  · exact absurd h0 hv
  · exact ⟨g, cap, hv', hb⟩
theorem own_bytes {w : World} {base n : Nat} {e : TypeId} {v : Value} {l : List (BitVec 8)} (h : w.ownsRow base e 1 v n (bytesV l)) : ∃ A c, v = .slice A l.length c ∧ l.length ≤ c ∧ RdB w A l ∧ (A = none → c = 0) := by
  have hl : l.length = n := by have := h.1; simpa [bytesV] using this
  rcases Joins.ownsRow_forms h with ⟨rfl, h0⟩ | ⟨g, cap, rfl⟩
  · obtain rfl : l = [] := List.eq_nil_of_length_eq_zero (by omega)
    exact ⟨none, 0, by simp, by simp, ⟨by simp, fun j hj => by simp at hj⟩, fun _ => rfl⟩
  · exact ⟨_, cap, by rw [hl], by rw [hl]; exact own_cap h, RdB.own h, fun h => by cases h⟩
/-- A cutter at g, with some bytes left. -/
def CutAt (W : World) (g : Nat) (le mo bi : Int) (L : List (BitVec 8)) : Prop :=
  ∃ v, Keeps [(⟨g, 0, none⟩, .int .i64 le), (⟨g, 1, none⟩, .int .i64 mo), (⟨g, 2, none⟩, .int .i64 bi), (⟨g, 3, none⟩, v)] W ∧ W.ownsRow (g + 1) 5 1 v L.length (bytesV L) ∧ ∃ c fz, W.heap[g]? = some (.cells c 51 fz)
theorem CutAt.kind {W : World} {g : Nat} {le mo bi : Int} {L : List (BitVec 8)} (h : CutAt W g le mo bi L) : ∃ c fz, W.heap[g]? = some (.cells c 51 fz) := by
  obtain ⟨_, _, _, h⟩ := h; exact h
theorem kind_setCell {W : World} {g : Nat} {t : TypeId} (h : ∃ c fz, W.heap[g]? = some (.cells c t fz)) (a : Addr) (v : Value) : ∃ c fz, (W.setCell a v).heap[g]? = some (.cells c t fz) := by
  obtain ⟨c, fz, hc⟩ := h
  by_cases ha : a.block = g
  · unfold World.setCell
    simp only [Array.getElem?_modify, ha, if_true, hc, Option.map_some]
    exact ⟨_, _, rfl⟩
  · exact ⟨c, fz, (Below.heap_setCell _ _ _ _ (fun e => ha e.symm)).trans hc⟩
theorem CutAt.besides {W W' : World} {g : Nat} {le mo bi : Int} {L : List (BitVec 8)} (h : CutAt W g le mo bi L) {S : List Nat} (hb : Besides S W W') (hg : g ∉ S) (hs : ∀ k ∈ S, k ≤ g ∨ ∃ c fz, W.heap[k]? = some (.cells c 51 fz)) : CutAt W' g le mo bi L := by
  obtain ⟨v, hk, ho, c, fz, hc⟩ := h
  refine ⟨v, hk.besides hb (by simp; exact hg), own_besides ho hb (fun q hq hqs => ?_), c, fz, (hb.block g (Array.getElem?_eq_some_iff.1 hc).1 hg).trans hc⟩
  rcases hs q hqs with h | ⟨c', fz', hc'⟩
  · have := own_base' ho q hq; omega
  · obtain ⟨c2, fz2, hc2⟩ := ownsRow_cells ho q hq
    rw [hc2] at hc'
    cases hc'
theorem CutAt.below {W W' : World} {g : Nat} {le mo bi : Int} {L : List (BitVec 8)} (h : CutAt W g le mo bi L) (hb : Below W.heap.size W W') : CutAt W' g le mo bi L := by
  obtain ⟨v, hk, ho, c, fz, hc⟩ := h
  exact ⟨v, hk.below hb, own_below ho hb, c, fz, (hb.block g (Array.getElem?_eq_some_iff.1 hc).1).trans hc⟩
theorem is_yes (g : Nat) (le mo bi : Int) (L : List (BitVec 8)) (w : World) (hok : okC le mo bi) (h : CutAt w g le mo bi L) : Calls Try.prog 33 #[.pointer (some ⟨g, 0, none⟩)] w fun e w' => e = .returned (.bool true) ∧ w = w' := by
  obtain ⟨v, hk, _⟩ := h
  have c1 := (hk (⟨g, 1, none⟩, .int .i64 mo) (by simp)).1
  dsimp only at c1
  obtain ⟨h1, h2, _⟩ := hok
  have hmo : (0 : Int) < mo := by omega
  clear hk
  go_enter Try.func33, Try.ntmps33
  go_wp2
  go_ret
  exact ⟨rfl, rfl⟩
theorem left_yes (g : Nat) (le mo bi : Int) (L : List (BitVec 8)) (w : World) (hok : okC le mo bi) (h : CutAt w g le mo bi L) : Calls Try.prog 27 #[.pointer (some ⟨g, 0, none⟩)] w fun e w' => e = .returned (.int .i64 L.length) ∧ w = w' := by
  have IS := Lib.hid (is_yes g le mo bi L w hok h)
  obtain ⟨v, hk, ho, _⟩ := h
  have c3 := (hk (⟨g, 3, none⟩, v) (by simp)).1
  dsimp only at c3
  obtain ⟨A, c, rfl, hc, _⟩ := own_bytes ho
  clear hk ho hok
  go_enter Try.func27, Try.ntmps27
  go_wp2_with (go_at_call 33; refine IS.out.mono ?_; rintro e w' ⟨rfl, rfl⟩)
  go_ret
  exact ⟨rfl, rfl⟩
theorem close_yes (g : Nat) (le mo bi : Int) (L : List (BitVec 8)) (w : World) (hok : okC le mo bi) (h : CutAt w g le mo bi L) : Calls Try.prog 25 #[.pointer (some ⟨g, 0, none⟩)] w fun e w' => ∃ v, e = .returned (.tuple #[v, .int .i64 0]) ∧ w'.ownsRow (g + 1) 5 1 v L.length (bytesV L) ∧ CutAt w' g le mo bi [] ∧ Besides [g] w w' := by
  have IS := Lib.hid (is_yes g le mo bi L w hok h)
  obtain ⟨v, hk, ho, hct⟩ := h
  have HCT := Lib.hid (kind_setCell hct ⟨g, 3, none⟩ (.slice none 0 0))
  clear hct
  obtain ⟨c3, f3⟩ := hk (⟨g, 3, none⟩, v) (by simp)
  dsimp only at c3 f3
  have ho' := own_setCell (a := ⟨g, 3, none⟩) ho (fun q hq => by have := own_base' ho q hq; simp only; omega) (.slice none 0 0)
  obtain ⟨k0, k00⟩ := hk (⟨g, 0, none⟩, .int .i64 le) (by simp)
  obtain ⟨k1, k11⟩ := hk (⟨g, 1, none⟩, .int .i64 mo) (by simp)
  obtain ⟨k2, k22⟩ := hk (⟨g, 2, none⟩, .int .i64 bi) (by simp)
  dsimp only at k0 k00 k1 k11 k2 k22
  have hkeep : Keeps [(⟨g, 0, none⟩, .int .i64 le), (⟨g, 1, none⟩, .int .i64 mo), (⟨g, 2, none⟩, .int .i64 bi), (⟨g, 3, none⟩, .slice none 0 0)] (w.setCell ⟨g, 3, none⟩ (.slice none 0 0)) := by
    intro q hq
    simp only [List.mem_cons, List.not_mem_nil, or_false] at hq
    rcases hq with rfl | rfl | rfl | rfl
    · exact ⟨(World.cell?_setCell_other _ _ _ _ (by simp)).trans k0, (World.frozen?_setCell _ _ _ _).trans k00⟩
    · exact ⟨(World.cell?_setCell_other _ _ _ _ (by simp)).trans k1, (World.frozen?_setCell _ _ _ _).trans k11⟩
    · exact ⟨(World.cell?_setCell_other _ _ _ _ (by simp)).trans k2, (World.frozen?_setCell _ _ _ _).trans k22⟩
    · exact ⟨World.cell?_setCell_same _ _ _ c3, (World.frozen?_setCell _ _ _ _).trans f3⟩
  have HK := Lib.hid hkeep
  have HO := Lib.hid ho'
  clear hk ho hok hkeep ho'
  go_enter Try.func25, Try.ntmps25
  go_wp2_with (go_at_call 33; refine IS.out.mono ?_; rintro e w' ⟨rfl, rfl⟩)
  go_ret2
  exact ⟨_, rfl, HO.out, ⟨_, HK.out, World.ownsRow_nil _ _ _ _, HCT.out⟩, (Besides.refl _ _).setCell _ (by simp) _⟩
theorem new_ok (le mo bi : Int) (w : World) (hok : okC le mo bi) : Calls Try.prog 22 #[confV le mo bi] w fun e w' => ∃ g, e = .returned (.tuple #[.pointer (some ⟨g, 0, none⟩), .int .i64 0]) ∧ CutAt w' g le mo bi [] ∧ w.heap.size ≤ g ∧ w'.heap.size = g + 1 ∧ Below w.heap.size w w' := by
  have HC := Lib.hid (show checkC le mo bi = 0 by rw [checkC, if_pos hok])
  clear hok
  go_enter Try.func22, Try.ntmps22
  go_wp2_with (first | (refine wpList_build_at rfl 51 _ rfl #[.int .i64 le, .int .i64 mo, .int .i64 bi, .slice none 0 0] (by kernel_rfl) ?_) | (go_at_call 17; refine (check_any le mo bi _).mono ?_; rintro e w' ⟨rfl, rfl⟩; rw [HC.out]))
  go_ret2
  refine ⟨_, rfl, ⟨.slice none 0 0, ?_, World.ownsRow_nil _ _ _ _, _, _, heap_new _ _ _ (by simp)⟩, ?_, ?_, ?_⟩
  · intro q hq
    simp only [List.mem_cons, List.not_mem_nil, or_false] at hq
    rcases hq with rfl | rfl | rfl | rfl <;> simp [go_sem]
  · first | omega | (simp; omega)
  · simp
  · exact (((Below.refl _ _).alloc (Nat.le_refl _) _).alloc (by simp) _).alloc (by simp; try omega) _
theorem new_bad (le mo bi : Int) (w : World) (hok : ¬ okC le mo bi) : Calls Try.prog 22 #[confV le mo bi] w fun e w' => e = .returned (.tuple #[.pointer none, .int .i64 80]) ∧ Below w.heap.size w w' := by
  have HC := Lib.hid (show checkC le mo bi = 80 by rw [checkC, if_neg hok])
  clear hok
  go_enter Try.func22, Try.ntmps22
  go_wp2_with (go_at_call 17; refine (check_any le mo bi _).mono ?_; rintro e w' ⟨rfl, rfl⟩; rw [HC.out])
  go_ret2
  exact ⟨rfl, ((Below.refl _ _).alloc (Nat.le_refl _) _).alloc (by simp) _⟩
end Go.Proofs.Ytpdigpfjmpaooaa
