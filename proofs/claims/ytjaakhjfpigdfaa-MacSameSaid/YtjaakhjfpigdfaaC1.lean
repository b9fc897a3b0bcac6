import Derived.Test.YtjaakhjfpigdfaaX6
import Derived.Test.YtjaakhjfpigdfaaX5
import Derived.Test.YtjaakhjfpigdfaaW2
/-! The MAC's spec (plain); slices of arrays; rows of one's own. -/
namespace Go.Proofs.Ytjaakhjfpigdfaa
open Go.RowKit
set_option linter.unusedVariables false
set_option linter.unusedSimpArgs false
/-- A key's block. -/
def keyB (k : By) : By := if 64 < k.length then sumL k ++ List.replicate 32 0 else k ++ List.replicate (64 - k.length) 0
def xorB (b : By) (m : BitVec 8) : By := b.map fun x => x ^^^ m
/-- The MAC of some bytes. -/
def macL (k p : By) : By := sumL (xorB (keyB k) 0x5c#8 ++ sumL (xorB (keyB k) 0x36#8 ++ p))
theorem keyB_len (k : By) : (keyB k).length = 64 := by
  unfold keyB
  by_cases h : 64 < k.length
  · rw [if_pos h, List.length_append, sumL_len, List.length_replicate]
  · rw [if_neg h, List.length_append, List.length_replicate]; omega
theorem xorB_len (b : By) (m : BitVec 8) : (xorB b m).length = b.length := by simp [xorB]
theorem macL_len (k p : By) : (macL k p).length = 32 := sumL_len _
theorem keyB_zero (k : By) (h : k.length < 64) : keyB (k ++ [0]) = keyB k := by
  unfold keyB
  rw [if_neg (by rw [List.length_append]; simp; omega), if_neg (by omega), List.append_assoc, List.length_append]
  congr 1
  show 0 :: List.replicate (64 - (k.length + 1)) 0 = _
  rw [← List.replicate_succ]
  congr 1
  omega
theorem keyB_sum (k : By) (h : 64 < k.length) : keyB (sumL k) = keyB k := by
  have hl := sumL_len k
  unfold keyB
  rw [if_pos h, if_neg (by omega), hl]
/-- Half-way: the first i bytes were turned. -/
def xorN (b : By) (m : BitVec 8) (i : Nat) : By := (List.range 64).map fun j => if j < i then b.getD j 0 ^^^ m else b.getD j 0
theorem xorN_len (b : By) (m : BitVec 8) (i : Nat) : (xorN b m i).length = 64 := by simp [xorN]
theorem range_self (b : By) (n : Nat) (h : b.length = n) (f : BitVec 8 → BitVec 8) : (List.range n).map (fun j => f (b.getD j 0)) = b.map f := by
  apply List.ext_getElem (by simp [h])
  intro j h1 h2
  have hj : j < b.length := by simpa using h2
  rw [List.getElem_map, List.getElem_range, List.getElem_map, List.getD_eq_getElem?_getD, List.getElem?_eq_getElem hj]
  rfl
theorem xorN_zero (b : By) (m : BitVec 8) (h : b.length = 64) : xorN b m 0 = b := by
  unfold xorN
  have := range_self b 64 h id
  simpa using this
theorem xorN_all (b : By) (m : BitVec 8) (h : b.length = 64) : xorN b m 64 = xorB b m := by
  unfold xorN xorB
  rw [← range_self b 64 h]
  apply List.map_congr_left
  intro j hj
  rw [if_pos (List.mem_range.1 hj)]
theorem xorN_get (b : By) (m : BitVec 8) (i : Nat) (h : i < 64) : (xorN b m i).getD i 0 = b.getD i 0 := by
  unfold xorN
  rw [map_range_get 64 i _ h, if_neg (by omega)]
theorem xorN_step (b : By) (m : BitVec 8) (i : Nat) : (xorN b m i).set i (b.getD i 0 ^^^ m) = xorN b m (i + 1) := by
  unfold xorN
  refine map_range_set 64 i _ _ _ (by rw [if_pos (by omega)]) fun j hj => ?_
  by_cases h : j < i
  · rw [if_pos h, if_pos (by omega)]
  · rw [if_neg h, if_neg (by omega)]
theorem EqN.arr {w : World} {g : Nat} {l : By} {t : TypeId} {m : Nat × Nat} (h : w.heap[g]? = some (.cells (V8 l) t m)) (n : Nat) (hn : l.length = n) (hm : n ≤ 9223372036854775807) : EqN w l (.slice (some ⟨g, 0, none⟩) n n) := by
  subst hn
  refine ⟨_, l.length, rfl, Nat.le_refl _, ⟨hm, fun j hj => ⟨_, .int .u8 (l[j].toNat : Int), rfl, ?_, rfl⟩⟩, fun h => by cases h⟩
  rw [add_zero_off, Joins.cell_of_block h]
  have := V8_at l j hj
  rw [List.getD_eq_getElem?_getD, List.getElem?_eq_getElem hj] at this
  exact this
theorem OwnP.one {w0 w : World} {g base : Nat} {u : Value} {p : By} (h : w.heap[g]? = some (.cells #[u] 35 (0, 0))) (hb : base ≤ g) (hu : EqN w0 p u) : OwnP w0 w base (.slice (some ⟨g, 0, none⟩) 1 1) [p] :=
  ⟨[u], ⟨rfl, .inr ⟨g, 1, #[u], rfl, hb, h, Nat.le_refl _, by decide, rfl, rfl⟩⟩, fun j hj => by
    have e : j = 0 := by simpa using hj
    subst e
    exact ⟨u, rfl, hu⟩⟩
theorem wpList_append_rows {w0 w : World} {ops : Array Oper} {rest : List Oper} {o : Oper} {a : Act} {Q : Exit → Act → World → Prop} (hgd : o.guard = none) (s x : Operand) (ho : o.op = .call { callee := .builtin .append, args := #[s, x], argTypes := #[22, 22] })
    (base : Nat) (v : Value) (ps : List By) (hs : a.eval s = v) (hown : OwnP w0 w base v ps) (ad : Addr) (c : Nat) (qs : List By) (hx : a.eval x = .slice (some ad) qs.length c) (hr : RdN w0 (some ad) qs) (hb0 : Below w0.heap.size w0 w) (hc : qs.length ≤ c) (hmax : (ps.length + qs.length) * 24 ≤ 140737488355328) (hb : base ≤ w.heap.size)
    (h : ∀ v' w', OwnP w0 w' base v' (ps ++ qs) → Below base w w' → wpList Try.prog ops Q rest (a.put o.dst v') w') : wpList Try.prog ops Q (o :: rest) a w :=
  wpList_plain hgd fun _ hK => wp_append_rows s x ho base v ps hs hown ad c qs hx hr hb0 hc hmax hb fun v' w' h2 h3 _ => hK _ _ (h v' w' h2 h3)
set_option maxRecDepth 100000 in
theorem slice25 (a : Addr) (w : World) : (Instr.sliceAt 25 (.pointer (some a)) none none none).run Try.prog w = .ok (.slice (some a) 32 32) w := by
  simp [go_sem, Instr.sliceAt, Try.underlying25]
set_option maxRecDepth 100000 in
theorem slice24 (a : Addr) (w : World) : (Instr.sliceAt 24 (.pointer (some a)) none none none).run Try.prog w = .ok (.slice (some a) 32 32) w := by
  simp [go_sem, Instr.sliceAt, Try.underlying24]
set_option maxRecDepth 100000 in
theorem slice74 (a : Addr) (w : World) : (Instr.sliceAt 74 (.pointer (some a)) none none none).run Try.prog w = .ok (.slice (some a) 64 64) w := by
  simp [go_sem, Instr.sliceAt, Try.underlying74]
end Go.Proofs.Ytjaakhjfpigdfaa
