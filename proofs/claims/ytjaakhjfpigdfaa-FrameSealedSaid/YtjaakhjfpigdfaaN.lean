import Derived.Test.YtjaakhjfpigdfaaL
import Derived.Test.YtjaakhjfpigdfaaI3
import Derived.Laws.AppendOwnNone
/-! Rows of bytes: appends of bytes that may be nil; one block that changes; bytes.Clone. -/
namespace Go.Proofs.Ytjaakhjfpigdfaa
open Go.RowKit
set_option linter.unusedVariables false
set_option linter.unusedSimpArgs false
theorem bytesV_len (p : List (BitVec 8)) : (bytesV p).length = p.length := by simp [bytesV]
theorem run_append_bytes {w : World} (base : Nat) (ty : TypeId) (v : Value) (n : Nat) (xs : List Value) (hown : w.ownsRow base 5 1 v n xs) (B : Option Addr) (c : Nat) (l : List (BitVec 8)) (hr : RdB w B l) (hnil : B = none → c = 0) (hc : l.length ≤ c) (hmax : n + l.length ≤ 140737488355328) (hb : base ≤ w.heap.size) :
    ∃ v' w', (Builtin.append_ #[35, 35] ty #[v, .slice B l.length c]).run Try.prog w = .ok v' w' ∧ w'.ownsRow base 5 1 v' (n + l.length) (xs ++ bytesV l) ∧ w.grownBy w' v.ownBlock ∧ (v ≠ .slice none 0 0 → v' ≠ .slice none 0 0) := by
  obtain ⟨i0, hi, hz0, hz1, hz2⟩ := info_parts info5
  rcases B with _ | ad
  · obtain rfl := hnil rfl
    obtain rfl : l = [] := List.eq_nil_of_length_eq_zero (by omega)
    refine ⟨v, w, run_append_owned_none (P := Try.prog) w base 35 ty 5 i0 1 Try.underlying35 hi v n xs hown, by simpa [bytesV] using hown, ⟨rfl, rfl, rfl, Nat.le_refl _, fun _ _ _ => rfl⟩, id⟩
  · obtain ⟨v', w', h1, h2, h3, h4⟩ := run_append_own (P := Try.prog) w base 35 ty 5 i0 (.int .u8 0) 1 1 Try.underlying35 hi hz0 hz1 hz2 rfl (by decide) v n xs hown ad l.length c (bytesV l) (by simp [bytesV]) (bytesV_cells hr) (bytesV_one l) (by unfold maxLen; omega) (by omega) hb
    exact ⟨v', w', h1, h2, h3, fun h e => h (h4.1 e).1⟩
theorem wp_append_bytes {w : World} {o : Oper} {a : Act} {K : Act → World → Prop} {Q : Exit → Act → World → Prop} (s x : Operand) (ho : o.op = .call { callee := .builtin .append, args := #[s, x], argTypes := #[35, 35] })
    (base : Nat) (v : Value) (n : Nat) (xs : List Value) (hs : a.eval s = v) (hown : w.ownsRow base 5 1 v n xs) (B : Option Addr) (c : Nat) (l : List (BitVec 8)) (hx : a.eval x = .slice B l.length c) (hr : RdB w B l) (hnil : B = none → c = 0) (hc : l.length ≤ c) (hmax : n + l.length ≤ 140737488355328) (hb : base ≤ w.heap.size)
    (h : ∀ v' w', w'.ownsRow base 5 1 v' (n + l.length) (xs ++ bytesV l) → w.grownBy w' v.ownBlock → (v ≠ .slice none 0 0 → v' ≠ .slice none 0 0) → K (a.put o.dst v') w') : o.wp Try.prog a w K Q := by
  obtain ⟨v', w', hrun, h2, h3, h4⟩ := run_append_bytes base o.type v n xs hown B c l hr hnil hc hmax hb
  unfold Oper.wp execOp
  simp only [ho, resolve, invoke, builtin, Sem.run_bind, Sem.run_pure, Result.andThen_ok, List.map_toArray, List.map_cons, List.map_nil, hs, hx, hrun]
  exact h v' w' h2 h3 h4
theorem wpList_append_bytes {w : World} {ops : Array Oper} {rest : List Oper} {o : Oper} {a : Act} {Q : Exit → Act → World → Prop} (hgd : o.guard = none) (s x : Operand) (ho : o.op = .call { callee := .builtin .append, args := #[s, x], argTypes := #[35, 35] })
    (base : Nat) (v : Value) (n : Nat) (xs : List Value) (hs : a.eval s = v) (hown : w.ownsRow base 5 1 v n xs) (B : Option Addr) (c : Nat) (l : List (BitVec 8)) (hx : a.eval x = .slice B l.length c) (hr : RdB w B l) (hnil : B = none → c = 0) (hc : l.length ≤ c) (hmax : n + l.length ≤ 140737488355328) (hb : base ≤ w.heap.size)
    (h : ∀ v' w', w'.ownsRow base 5 1 v' (n + l.length) (xs ++ bytesV l) → w.grownBy w' v.ownBlock → (v ≠ .slice none 0 0 → v' ≠ .slice none 0 0) → wpList Try.prog ops Q rest (a.put o.dst v') w') : wpList Try.prog ops Q (o :: rest) a w :=
  wpList_plain hgd fun _ hK => wp_append_bytes s x ho base v n xs hs hown B c l hx hr hnil hc hmax hb fun v' w' h2 h3 h4 => hK _ _ (h v' w' h2 h3 h4)
/-- The form of a row of one's own that is not nil. -/
theorem own_form {w : World} {base size n : Nat} {e : TypeId} {v : Value} {xs : List Value} (h : w.ownsRow base e size v n xs) (hv : v ≠ .slice none 0 0) : ∃ g cap, v = .slice (some ⟨g, 0, none⟩) n cap ∧ base ≤ g := by
  rcases h.2 with ⟨h0, _⟩ | ⟨g, cap, _, hv', hb, _⟩
  · exact absurd h0 hv
  · exact ⟨g, cap, hv', hb⟩
theorem own_bytes {w : World} {base n : Nat} {e : TypeId} {v : Value} {l : List (BitVec 8)} (h : w.ownsRow base e 1 v n (bytesV l)) : ∃ A c, v = .slice A l.length c ∧ l.length ≤ c ∧ RdB w A l ∧ (A = none → c = 0) := by
  have hl : l.length = n := by have := h.1; simpa [bytesV] using this
  rcases Joins.ownsRow_forms h with ⟨rfl, h0⟩ | ⟨g, cap, rfl⟩
  · obtain rfl : l = [] := List.eq_nil_of_length_eq_zero (by omega)
    exact ⟨none, 0, by simp, by simp, ⟨by simp, fun j hj => by simp at hj⟩, fun _ => rfl⟩
  · exact ⟨_, cap, by rw [hl], by rw [hl]; exact own_cap h, RdB.own h, fun h => by cases h⟩
/-- A slice of bytes as a value: what it reads as; nil has no room. -/
def EqN (w : World) (p : By) (v : Value) : Prop := ∃ A c, v = .slice A p.length c ∧ p.length ≤ c ∧ RdB w A p ∧ (A = none → c = 0)
theorem EqN.below {w w' : World} {p : By} {v : Value} (h : EqN w p v) (hb : Below w.heap.size w w') : EqN w' p v := by
  obtain ⟨A, c, e, hl, hr, hn⟩ := h
  exact ⟨A, c, e, hl, hr.below hb (fun _ _ h => h), hn⟩
theorem EqN.own {w : World} {base n : Nat} {e : TypeId} {v : Value} {l : By} (h : w.ownsRow base e 1 v n (bytesV l)) : EqN w l v := own_bytes h
/-- Block g alone may have changed. -/
structure Bes (g : Nat) (w w' : World) : Prop where
  os : w'.os = w.os
  tape : w'.tape = w.tape
  output : w'.output = w.output
  size : w.heap.size ≤ w'.heap.size
  block : ∀ k, k < w.heap.size → k ≠ g → w'.heap[k]? = w.heap[k]?
theorem Bes.refl (g : Nat) (w : World) : Bes g w w := ⟨rfl, rfl, rfl, Nat.le_refl _, fun _ _ _ => rfl⟩
theorem Bes.trans {g : Nat} {a b c : World} (h : Bes g a b) (k : Bes g b c) : Bes g a c :=
  ⟨k.os.trans h.os, k.tape.trans h.tape, k.output.trans h.output, Nat.le_trans h.size k.size, fun j hj hg => (k.block j (Nat.lt_of_lt_of_le hj h.size) hg).trans (h.block j hj hg)⟩
theorem Bes.of_below {g : Nat} {w w' : World} (h : Below w.heap.size w w') : Bes g w w' := ⟨h.os, h.tape, h.output, h.size, fun k hk _ => h.block k hk⟩
theorem Bes.below {g : Nat} {a w w' : World} (h : Bes g a w) (hb : Below w.heap.size w w') : Bes g a w' := h.trans (Bes.of_below hb)
theorem Bes.to_below {g B : Nat} {w w' : World} (h : Bes g w w') (hg : B ≤ g) (hB : B ≤ w.heap.size) : Below B w w' :=
  ⟨h.os, h.tape, h.output, h.size, fun k hk => h.block k (by omega) (by omega)⟩
theorem Bes.setCell {g : Nat} {a w : World} (h : Bes g a w) (i : Nat) (v : Value) : Bes g a (w.setCell ⟨g, i, none⟩ v) :=
  ⟨h.os, h.tape, h.output, by simpa [World.setCell] using h.size, fun k hk hg => (Below.heap_setCell _ _ _ _ hg).trans (h.block k hk hg)⟩
theorem Bes.drew {g : Nat} {a w : World} (h : Bes g a w) : Bes g a w.drew := ⟨h.os, h.tape, h.output, h.size, h.block⟩
set_option maxRecDepth 100000 in
set_option maxHeartbeats 4000000 in
theorem clone_any (p : By) (v : Value) (w : World) (h : EqN w p v) (hl : p.length ≤ 140737488355328) : Calls Try.prog 85 #[v] w fun e w' => ∃ v', e = .returned v' ∧ w'.ownsRow w.heap.size 5 1 v' p.length (bytesV p) ∧ Below w.heap.size w w' := by
  obtain ⟨A, c, rfl, hc, hr, hn⟩ := h
  cases A with
  | none =>
    obtain rfl := hn rfl
    obtain rfl : p = [] := List.eq_nil_of_length_eq_zero (by omega)
    have he := fun w => Lib.run_eql_slice_nil (P := Try.prog) w 35 5 none 0 0 0 0 Try.underlying35
    go_enter Try.func85, Try.ntmps85
    go_wp2
    go_ret
    exact ⟨_, rfl, ⟨rfl, .inl ⟨rfl, rfl⟩⟩, Below.refl _ _⟩
  | some ad =>
    have he := fun w => Lib.run_eql_slice_nil (P := Try.prog) w 35 5 (some ad) p.length c 0 0 Try.underlying35
    replace hr := Lib.hid hr
    go_enter Try.func85, Try.ntmps85
    go_wp2_with (first | (at_builtin; refine wpList_append_bytes rfl (.tmp 5) (.tmp 6) rfl w.heap.size _ 0 [] rfl (own_empty w 5 1) (some ad) c p rfl (RdB.alloc' hr.out _) (fun h => by cases h) hc (by omega) (by simp) ?_; intro v' w3 hown hgrow _; have hb3 : Below w.heap.size w w3 := ((Below.refl _ _).alloc (Nat.le_refl _) _).grown hgrow (by simp) (own_base' (own_empty w 5 1)); have HO := Lib.hid hown; clear hown hgrow) | fail)
    go_ret
    refine ⟨_, rfl, ?_, hb3⟩
    have := HO.out
    simpa using this
end Go.Proofs.Ytjaakhjfpigdfaa
