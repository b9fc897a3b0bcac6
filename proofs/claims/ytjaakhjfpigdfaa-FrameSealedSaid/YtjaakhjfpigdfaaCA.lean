import Derived.Test.YtjaakhjfpigdfaaXA
import Derived.Test.YtjaakhjfpigdfaaXB
import Derived.Test.YtjaakhjfpigdfaaW2
/-! The MAC's spec (plain); slices of arrays; rows of one's own. -/
namespace Go.Proofs.Ytjaakhjfpigdfaa
open Go.RowKit
set_option linter.unusedVariables false
set_option linter.unusedSimpArgs false
/-- A key's block. -/
def keyB (k : By) : By := if 64 < k.length then sumL k ++ List.replicate 32 0 else k ++ List.replicate (64 - k.length) 0
def xorB (b : By) (m : BitVec 8) : By := b.map fun x => x ^^^ m
/-- The MAC of some bytes. -/
def macL (k p : By) : By := sumL (xorB (keyB k) 0x5c#8 ++ sumL (xorB (keyB k) 0x36#8 ++ p))
theorem keyB_len (k : By) : (keyB k).length = 64 := by
  unfold keyB
  by_cases h : 64 < k.length
  · rw [if_pos h, List.length_append, sumL_len, List.length_replicate]
  · rw [if_neg h, List.length_append, List.length_replicate]; omega
theorem xorB_len (b : By) (m : BitVec 8) : (xorB b m).length = b.length := by simp [xorB]
theorem macL_len (k p : By) : (macL k p).length = 32 := sumL_len _
theorem keyB_zero (k : By) (h : k.length < 64) : keyB (k ++ [0]) = keyB k := by
  unfold keyB
  rw [if_neg (by rw [List.length_append]; simp; omega), if_neg (by omega), List.append_assoc, List.length_append]
  congr 1
  show 0 :: List.replicate (64 - (k.length + 1)) 0 = _
  rw [← List.replicate_succ]
  congr 1
  omega
theorem keyB_sum (k : By) (h : 64 < k.length) : keyB (sumL k) = keyB k := by
  have hl := sumL_len k
  unfold keyB
  rw [if_pos h, if_neg (by omega), hl]
/-- Half-way: the first i bytes were turned. -/
def xorN (b : By) (m : BitVec 8) (i : Nat) : By := (List.range 64).map fun j => if j < i then b.getD j 0 ^^^ m else b.getD j 0
theorem xorN_len (b : By) (m : BitVec 8) (i : Nat) : (xorN b m i).length = 64 := by simp [xorN]
theorem range_self (b : By) (n : Nat) (h : b.length = n) (f : BitVec 8 → BitVec 8) : (List.range n).map (fun j => f (b.getD j 0)) = b.map f := by
  apply List.ext_getElem (by simp [h])
  intro j h1 h2
  have hj : j < b.length := by simpa using h2
  rw [List.getElem_map, List.getElem_range, List.getElem_map, List.getD_eq_getElem?_getD, List.getElem?_eq_getElem hj]
  rfl
theorem xorN_zero (b : By) (m : BitVec 8) (h : b.length = 64) : xorN b m 0 = b := by
  unfold xorN
  have := range_self b 64 h id
  simpa using this
theorem xorN_all (b : By) (m : BitVec 8) (h : b.length = 64) : xorN b m 64 = xorB b m := by
  unfold xorN xorB
  rw [← range_self b 64 h]
  apply List.map_congr_left
  intro j hj
  rw [if_pos (List.mem_range.1 hj)]
theorem xorN_get (b : By) (m : BitVec 8) (i : Nat) (h : i < 64) : (xorN b m i).getD i 0 = b.getD i 0 := by
  unfold xorN
  rw [map_range_get 64 i _ h, if_neg (by omega)]
theorem xorN_step (b : By) (m : BitVec 8) (i : Nat) : (xorN b m i).set i (b.getD i 0 ^^^ m) = xorN b m (i + 1) := by
  unfold xorN
  refine map_range_set 64 i _ _ _ (by rw [if_pos (by omega)]) fun j hj => ?_
  by_cases h : j < i
  · rw [if_pos h, if_pos (by omega)]
  · rw [if_neg h, if_neg (by omega)]
theorem EqN.arr {w : World} {g : Nat} {l : By} {t : TypeId} {m : Nat × Nat} (h : w.heap[g]? = some (.cells (V8 l) t m)) (n : Nat) (hn : l.length = n) (hm : n ≤ 9223372036854775807) : EqN w l (.slice (some ⟨g, 0, none⟩) n n) := by
  subst hn
  refine ⟨_, l.length, rfl, Nat.le_refl _, ⟨hm, fun j hj => ⟨_, .int .u8 (l[j].toNat : Int), rfl, ?_, rfl⟩⟩, fun h => by cases h⟩
  rw [add_zero_off, Joins.cell_of_block h]
  have := V8_at l j hj
  rw [List.getD_eq_getElem?_getD, List.getElem?_eq_getElem hj] at this
  exact this
theorem OwnP.one {w0 w : World} {g base : Nat} {u : Value} {p : By} (h : w.heap[g]? = some (.cells #[u] 35 (0, 0))) (hb : base ≤ g) (hu : EqN w0 p u) : OwnP w0 w base (.slice (some ⟨g, 0, none⟩) 1 1) [p] :=
  ⟨[u], ⟨rfl, .inr ⟨g, 1, #[u], rfl, hb, h, Nat.le_refl _, by decide, rfl, rfl⟩⟩, fun j hj => by
    have e : j = 0 := by simpa using hj
    subst e
    exact ⟨u, rfl, hu⟩⟩
theorem wpList_append_rows {w0 w : World} {ops : Array Oper} {rest : List Oper} {o : Oper} {a : Act} {Q : Exit → Act → World → Prop} (hgd : o.guard = none) (s x : Operand) (ho : o.op = .call { callee := .builtin .append, args := #[s, x], argTypes := #[22, 22] })
    (base : Nat) (v : Value) (ps : List By) (hs : a.eval s = v) (hown : OwnP w0 w base v ps) (ad : Addr) (c : Nat) (qs : List By) (hx : a.eval x = .slice (some ad) qs.length c) (hr : RdN w0 (some ad) qs) (hb0 : Below w0.heap.size w0 w) (hc : qs.length ≤ c) (hmax : (ps.length + qs.length) * 24 ≤ 140737488355328) (hb : base ≤ w.heap.size)
    (h : ∀ v' w', OwnP w0 w' base v' (ps ++ qs) → Below base w w' → wpList Try.prog ops Q rest (a.put o.dst v') w') : wpList Try.prog ops Q (o :: rest) a w :=
  wpList_plain hgd fun _ hK => wp_append_rows s x ho base v ps hs hown ad c qs hx hr hb0 hc hmax hb fun v' w' h2 h3 _ => hK _ _ (h v' w' h2 h3)
set_option maxRecDepth 100000 in
theorem slice25 (a : Addr) (w : World) : (Instr.sliceAt 25 (.pointer (some a)) none none none).run Try.prog w = .ok (.slice (some a) 32 32) w := by
  simp [go_sem, Instr.sliceAt, Try.underlying25]
set_option maxRecDepth 100000 in
theorem slice24 (a : Addr) (w : World) : (Instr.sliceAt 24 (.pointer (some a)) none none none).run Try.prog w = .ok (.slice (some a) 32 32) w := by
  simp [go_sem, Instr.sliceAt, Try.underlying24]
set_option maxRecDepth 100000 in
theorem slice74 (a : Addr) (w : World) : (Instr.sliceAt 74 (.pointer (some a)) none none none).run Try.prog w = .ok (.slice (some a) 64 64) w := by
  simp [go_sem, Instr.sliceAt, Try.underlying74]
end Go.Proofs.Ytjaakhjfpigdfaa
/-! A block turned: with; xored. -/
namespace Go.Proofs.Ytjaakhjfpigdfaa
open Go.RowKit
set_option linter.unusedVariables false
set_option linter.unusedSimpArgs false
set_option maxRecDepth 100000 in
set_option maxHeartbeats 4000000 in
theorem with_any (b : By) (hb : b.length = 64) (m : BitVec 8) (w : World) : Calls Try.prog 87 #[.agg (V8 b), .int .u8 (m.toNat : Int)] w fun e w' => ∃ v, e = .returned v ∧ EqN w' (xorB b m) v ∧ Below w.heap.size w w' := by
  have z1 := Lib.hid (heap_new w (.cells (V8 b) 74) w.heap.size rfl)
  have b1 := Lib.hid (below_alloc1 w (.cells (V8 b) 74))
  have hx0 := xorN_zero b m hb
  have HXA := Lib.hid (xorN_all b m hb)
  have HBL := Lib.hid hb
  obtain ⟨W1, hW1⟩ : ∃ W, w.alloc (.cells (V8 b) 74) = W := ⟨_, rfl⟩
  rw [hW1] at z1 b1
  have HW1 := Lib.hid hW1
  have HX0 := Lib.hid hx0
  clear hW1 hx0 hb
  go_enter Try.func87, Try.ntmps87
  go_upto_region 1 with (fail)
  rw [HW1.out]
  obtain ⟨g2, hg2⟩ : ∃ g, w.heap.size = g := ⟨_, rfl⟩
  rw [hg2] at z1
  rw [hg2]
  have HG2 := Lib.hid hg2
  clear hg2 HW1
  go_wp2
  go_loopg [6] 64 (fun gk v6 wr => ∃ i : Nat, gk = 64 - i ∧ i ≤ 64 ∧ v6 = .int .i64 (i : Int) ∧ wr.heap[g2]? = some (.cells (V8 (xorN b m i)) 74 (0, 0)) ∧ Below w.heap.size w wr)
  case atStart => exact ⟨0, rfl, by omega, rfl, by rw [HX0.out]; exact z1.out, b1.out⟩
  case round =>
    clear z1 b1
    obtain ⟨i, rfl, hi, rfl, hz, hbel⟩ := hrel
    by_cases hlt : i < 64
    · have hg := xorN_get b m i hlt
      have hs := xorN_step b m i
      have hl := xorN_len b m i
      obtain ⟨P, hP⟩ : ∃ P, xorN b m i = P := ⟨_, rfl⟩
      obtain ⟨x, hx⟩ : ∃ x, b.getD i 0 = x := ⟨_, rfl⟩
      rw [hP] at hz hg hs hl
      rw [hx] at hg hs
      have q2 : wr.cell? ⟨g2, i, none⟩ = some (.int .u8 (x.toNat : Int)) := by rw [Joins.cell_of_block hz, ← hg]; exact V8_at _ i (by omega)
      have f2 := fr_of hz i
      have hx8 := xor8 x m
      have hst := heap_setCell hz i (.int .u8 ((x ^^^ m).toNat : Int))
      rw [V8_set, hs] at hst
      have Z2 := Lib.hid hst
      have HB := Lib.hid (hbel.setCell (p := ⟨g2, i, none⟩) (by have := HG2.out; simp; omega) (.int .u8 ((x ^^^ m).toNat : Int)))
      have hlI : (i : Int) < 64 := by omega
      obtain ⟨y, hy⟩ : ∃ y, x ^^^ m = y := ⟨_, rfl⟩
      rw [hy] at hx8 Z2 HB
      clear hst hs hg hl hz hbel hP hx hy
      go_wp2
      go_roundg (64 - (i + 1))
      case measure => omega
      case rel => exact ⟨i + 1, rfl, by omega, by go_num, Z2.out, HB.out⟩
    · obtain rfl : i = 64 := by omega
      rw [HXA.out] at hz
      have HE := Lib.hid (EqN.arr hz 64 (by rw [xorB_len]; exact HBL.out) (by decide))
      have HB := Lib.hid hbel
      clear hz hbel
      go_wp2
      go_ret
      exact ⟨_, rfl, HE.out, HB.out⟩
set_option maxRecDepth 100000 in
set_option maxHeartbeats 4000000 in
theorem xored_any (b : By) (v : Value) (m : BitVec 8) (w : World) (hE : EqN w b v) (hl : b.length ≤ 1000000) : Calls Try.prog 89 #[v, .int .u8 (m.toNat : Int)] w fun e w' => ∃ v, e = .returned v ∧ EqN w' (xorB b m) v ∧ Below w.heap.size w w' := by
  obtain ⟨i0, hi0, hz0, hz1, hz2⟩ := info_parts info5
  obtain ⟨A, c, rfl, hc, hr, hn⟩ := hE
  have HR := Lib.hid hr
  have HTS := Lib.hid (show ∀ i, i < b.length → xorB (b.take (i + 1)) m = xorB (b.take i) m ++ [b.getD i 0 ^^^ m] from fun i hi => by
    unfold xorB
    rw [List.take_add_one, List.map_append, List.getElem?_eq_getElem hi, List.getD_eq_getElem?_getD, List.getElem?_eq_getElem hi]
    rfl)
  have HTL := Lib.hid (show ∀ i, i ≤ b.length → (xorB (b.take i) m).length = i from fun i hi => by rw [xorB_len, List.length_take]; omega)
  have HTA := Lib.hid (show xorB (b.take b.length) m = xorB b m by rw [List.take_length])
  obtain ⟨n, hbn⟩ : ∃ n, b.length = n := ⟨_, rfl⟩
  rw [hbn] at hc hl HTS HTL HTA ⊢
  have HBN := Lib.hid hbn
  clear hr hn hbn
  go_enter Try.func89, Try.ntmps89
  go_wp2
  go_loopg [5, 6] n (fun gk v5 v6 wr => ∃ i : Nat, gk = n - i ∧ i ≤ n ∧ v6 = .int .i64 (i : Int) ∧ wr.ownsRow w.heap.size 5 1 v5 i (bytesV (xorB (b.take i) m)) ∧ Below w.heap.size w wr)
  case atStart => exact ⟨0, rfl, by omega, rfl, ⟨rfl, .inl ⟨rfl, rfl⟩⟩, Below.refl _ _⟩
  case round =>
    obtain ⟨i, rfl, hi, rfl, hown, hbel⟩ := hrel
    have hsr := hbel.size
    by_cases hlt : i < n
    · obtain ⟨ad, rfl, hcell⟩ := RdB.at' HR.out i (by rw [HBN.out]; exact hlt)
      have hx : b[i]'(by rw [HBN.out]; exact hlt) = b.getD i 0 := by rw [List.getD_eq_getElem?_getD, List.getElem?_eq_getElem (by rw [HBN.out]; exact hlt)]; rfl
      rw [hx] at hcell
      have hts := HTS.out i hlt
      obtain ⟨x, hx2⟩ : ∃ x, b.getD i 0 = x := ⟨_, rfl⟩
      rw [hx2] at hcell hts
      have q0 : wr.cell? (ad.add i) = some (.int .u8 (x.toNat : Int)) := (hbel.cell (World.block_lt_of_cell? _ _ hcell)).trans hcell
      have hx8 := xor8 x m
      obtain ⟨y, hy⟩ : ∃ y, x ^^^ m = y := ⟨_, rfl⟩
      rw [hy] at hx8 hts
      have HO := Lib.hid hown
      have HTS1 := Lib.hid hts
      have HB := Lib.hid hbel
      have hlI : (i : Int) < (n : Int) := by omega
      clear hown hts hbel hcell hx hx2 hy
      go_wp2_with (first | (at_builtin; refine wpList_append_own _ rfl (.tmp 13) (.tmp 20) 35 rfl w.heap.size 5 i0 (.int .u8 0) 1 1 Try.underlying35 hi0 hz0 hz1 hz2 rfl (by decide) _ i _ rfl (HO.out.alloc _) ⟨wr.heap.size, 0, none⟩ 1 1 [.int .u8 (y.toNat : Int)] rfl rfl (cell_one_at _ _ _ _ rfl) (oneB _) (by unfold maxLen; omega) (by omega) (by simp; omega) ?_; intro v' w3 hown' hgrow _; have hb3 : Below w.heap.size w w3 := (HB.out.alloc hsr _).grown hgrow (by simp; omega) (own_base' HO.out); have HO3 := Lib.hid hown'; have HB3 := Lib.hid hb3; clear hown' hgrow hb3) | fail)
      go_roundg (n - (i + 1))
      case measure => omega
      case rel =>
        refine ⟨i + 1, rfl, by omega, by go_num, ?_, HB3.out⟩
        have ho := HO3.out
        rw [bytesV_snoc, ← HTS1.out] at ho
        exact ho
    · obtain rfl : i = n := by omega
      rw [HTA.out] at hown
      have HE := Lib.hid (EqN.own hown)
      have HB := Lib.hid hbel
      clear hown hbel
      go_wp2
      go_ret
      exact ⟨_, rfl, HE.out, HB.out⟩
end Go.Proofs.Ytjaakhjfpigdfaa
/-! A key's block: of; block. -/
namespace Go.Proofs.Ytjaakhjfpigdfaa
open Go.RowKit
set_option linter.unusedVariables false
set_option linter.unusedSimpArgs false
theorem V8_pad (k : By) (h : k.length ≤ 64) : ((V8 (List.replicate 64 0)).toList.take 0 ++ (k.map fun b => Value.int .u8 (b.toNat : Int)) ++ (V8 (List.replicate 64 0)).toList.drop (0 + (k.map fun b => Value.int .u8 (b.toNat : Int)).length)).toArray = V8 (k ++ List.replicate (64 - k.length) 0) := by
  rw [V8_splice (List.replicate 64 0) k 0]
  rw [List.take_zero, List.nil_append, Nat.zero_add, List.drop_replicate]
theorem sum1_any (b : By) (v : Value) (w : World) (h : EqN w b v) (hl : b.length ≤ 140737488355000) : Calls Try.prog 25 #[.slice (some ⟨w.heap.size, 0, none⟩) 1 1] (w.alloc (.cells #[v] 35)) fun e w' => e = .returned (.agg (V8 (sumL b))) ∧ Below w.heap.size w w' := by
  have hs := sum_any [b] (some ⟨w.heap.size, 0, none⟩) 1 _ (RdN.new1 w b _ 35 (0, 0) _ rfl h) (by simp) (by simp; omega)
  rw [show [b].flatten = b by simp] at hs
  refine hs.mono ?_
  rintro e w' ⟨rfl, hb⟩
  exact ⟨rfl, (below_alloc1 _ _).trans (hb.mono (by simp))⟩
set_option maxRecDepth 100000 in
set_option maxHeartbeats 4000000 in
theorem of_any (k : By) (v : Value) (w : World) (hE : EqN w k v) (hl : k.length ≤ 1000000) : Calls Try.prog 86 #[v] w fun e w' => e = .returned (.agg (V8 (keyB k))) ∧ Below w.heap.size w w' := by
  have hz := zeros64b
  have hzs : (V8 (List.replicate 64 0)).size = 64 := by rw [V8_size]; rfl
  have hpad := V8_pad
  obtain ⟨Zb, hZb⟩ : ∃ Z, V8 (List.replicate 64 0) = Z := ⟨_, rfl⟩
  rw [hZb] at hz hzs hpad
  have HZ := Lib.hid hz
  have HZS := Lib.hid hzs
  have HPAD := Lib.hid hpad
  clear hz hzs hpad hZb
  have hz32 := zeros32
  have hzs32 : (V8 (List.replicate 32 0)).size = 32 := by rw [V8_size]; rfl
  obtain ⟨Zr, hZr⟩ : ∃ Z, V8 (List.replicate 32 0) = Z := ⟨_, rfl⟩
  rw [hZr] at hz32 hzs32
  have HZ32 := Lib.hid hz32
  have HZS32 := Lib.hid hzs32
  clear hz32 hzs32 hZr
  have HE := Lib.hid hE
  obtain ⟨A, c, rfl, hc, hr, hn⟩ := hE
  have hkb := keyB_len k
  have HKB := Lib.hid hkb
  have HSK := Lib.hid (show (Try.prog.info? 74).map (·.size) = some (V8 (keyB k)).size by rw [V8_size, hkb]; kernel_rfl)
  have HZK := Lib.hid (show Zb.size = (V8 (keyB k)).size by rw [V8_size, hkb]; exact HZS.out)
  obtain ⟨n, hkn⟩ : ∃ n, k.length = n := ⟨_, rfl⟩
  rw [hkn] at hc hl HE ⊢
  have HKN := Lib.hid hkn
  clear hr hn hkb hkn
  have w1 := heap_new w (.cells Zb 74) w.heap.size rfl
  go_enter Try.func86, Try.ntmps86
  go_upto_region 2 with (fail)
  rw [← HZ.out]
  obtain ⟨W2, hW2⟩ : ∃ W, (w.alloc (.cells Zb 74)).alloc (.cells Zb 74) = W := ⟨_, rfl⟩
  obtain ⟨g3, hg3⟩ : ∃ g, w.heap.size + 1 = g := ⟨_, rfl⟩
  have Z2 := Lib.hid (show W2.heap[w.heap.size]? = some (.cells Zb 74 (0, 0)) by rw [← hW2]; exact heap_old _ trivial (heap_new _ _ _ rfl))
  have Z3 := Lib.hid (show W2.heap[g3]? = some (.cells Zb 74 (0, 0)) by rw [← hW2, ← hg3]; exact heap_new _ _ _ (by simp))
  have B2 := Lib.hid (show Below w.heap.size w W2 by rw [← hW2]; exact ((Below.refl _ _).alloc (Nat.le_refl _) _).alloc (by simp) _)
  have HG3 := Lib.hid hg3
  rw [hW2, hg3]
  clear hW2 hg3 w1
  go_upto_if 7 with (fail)
  go_cut [0, 4] from 8 to 11 (fun v0 v4 wx => ∃ q : By, EqN wx q v0 ∧ q.length ≤ 64 ∧ keyB k = q ++ List.replicate (64 - q.length) 0 ∧ wx.heap[w.heap.size]? = some (.cells Zb 74 (0, 0)) ∧ wx.heap[g3]? = some (.cells Zb 74 (0, 0)) ∧ Below w.heap.size w wx)
  case first =>
    by_cases h6 : 64 < n
    · have hdt : decide ((64 : Int) < (n : Int)) = true := by simp; omega
      have S1 := Lib.hid (sum1_any k (.slice A n c) W2 (HE.out.below B2.out) (by rw [HKN.out]; omega))
      have hsl := sumL_len k
      have HQ := Lib.hid (show keyB k = sumL k ++ List.replicate (64 - (sumL k).length) 0 by rw [sumL_len]; unfold keyB; rw [if_pos (by rw [HKN.out]; exact h6)])
      obtain ⟨Y, hY⟩ : ∃ Y, sumL k = Y := ⟨_, rfl⟩
      rw [hY] at S1 hsl HQ
      have HSY := Lib.hid (show (Try.prog.info? 25).map (·.size) = some (V8 Y).size by rw [V8_size, hsl]; kernel_rfl)
      have HZY := Lib.hid (show Zr.size = (V8 Y).size by rw [V8_size, hsl, HZS32.out])
      have HYL := Lib.hid hsl
      clear hsl hY
      go_wp2_with fail
      refine S1.out.mono ?_
      rintro e w3 ⟨rfl, hb3⟩
      have Z23 := Lib.hid (keepH hb3 Z2.out)
      have Z33 := Lib.hid (keepH hb3 Z3.out)
      have HB3 := Lib.hid (B2.out.trans (hb3.mono B2.out.size))
      have hsf := slice25 ⟨w3.heap.size, 0, none⟩
      clear S1 hb3 Z2 Z3 B2
      go_upto_region 4 with (first | ((with_reducible show wpList _ _ _ (⟨none, .store 25 (.tmp 4) (.tmp 10), _, _, _, _⟩ :: _) _ _); rw [← HZ32.out]; refine wpList_store_row rfl 25 (.tmp 4) (.tmp 10) rfl w3.heap.size (V8 Y) rfl rfl 25 _ (heap_new _ _ _ rfl) HSY.out HZY.out (V8_one _) ?_) | fail)
      generalize hW5 : (World.setRow _ _ _) = W5
      have b5 : Below w3.heap.size w3 W5 := by rw [← hW5]; exact below_setRow _ _ ((Below.refl _ _).alloc (Nat.le_refl _) _) (Nat.le_refl _)
      have y5 : W5.heap[w3.heap.size]? = some (.cells (V8 Y) 25 (0, 0)) := by rw [← hW5]; exact setRow_heap _ _ _ _ _ _ (heap_new _ _ _ rfl)
      have HE5 := Lib.hid (EqN.arr y5 32 HYL.out (by decide))
      have Z25 := Lib.hid (keepH b5 Z23.out)
      have Z35 := Lib.hid (keepH b5 Z33.out)
      have HB5 := Lib.hid (HB3.out.trans (b5.mono HB3.out.size))
      clear hW5 b5 y5 Z23 Z33 HB3
      go_wp2
      try rw [← hdt]
      go_meet
      case rel => exact ⟨Y, HE5.out, by rw [HYL.out]; decide, HQ.out, Z25.out, Z35.out, HB5.out⟩
    · go_wp2
      go_meet
      case rel => exact ⟨k, HE.out.below B2.out, by rw [HKN.out]; omega, (by unfold keyB; rw [if_neg (by rw [HKN.out]; exact h6)]), Z2.out, Z3.out, B2.out⟩
  case rest =>
    clear Z2 Z3 B2
    obtain ⟨q, hEq, hq64, hkq, z2, z3, hb⟩ := hcut
    obtain ⟨A', c', rfl, hc', hr', hn'⟩ := hEq
    have hcp : (Builtin.copy_ #[35, 35] 3 #[.slice (some ⟨g3, 0, none⟩) 64 64, .slice A' q.length c']).run Try.prog wc = .ok (goInt q.length) (wc.setRow g3 (V8 (keyB k))) := by
      rw [hkq]
      rcases A' with _ | a
      · obtain rfl := hn' rfl
        obtain rfl : q = [] := List.eq_nil_of_length_eq_zero (by omega)
        have hz0 : Zb = V8 ([] ++ List.replicate (64 - ([] : By).length) 0) := by rw [← HPAD.out [] (by decide)]; simp
        rw [← hz0, setRow_self _ _ _ _ z3]
        exact run_copy_nil (P := Try.prog) wc 35 35 3 5 ⟨g3, 0, none⟩ 64 64 Try.underlying35 (by kernel_rfl)
      · have h := run_copy_row (P := Try.prog) wc 35 35 3 5 g3 0 64 64 a q.length c' Zb 74 (q.map fun b => Value.int .u8 (b.toNat : Int)) Try.underlying35 (by kernel_rfl) z3 (by rw [List.length_map]; show q.length = min q.length 64; omega) (fun j v hj => RdB.v8 hr' j v (by simpa [V8] using hj)) (by rw [List.length_map, HZS.out]; omega) (by
          intro v hv
          obtain ⟨b, _, rfl⟩ := List.mem_map.1 hv
          rfl)
        rw [HPAD.out q hq64, List.length_map] at h
        exact h
    have z2' : (wc.setRow g3 (V8 (keyB k))).heap[w.heap.size]? = some (.cells Zb 74 (0, 0)) := by rw [setRow_other _ _ _ _ (by have := HG3.out; omega)]; exact z2
    have z3' := setRow_heap wc g3 _ (V8 (keyB k)) _ _ z3
    have hb' := below_setRow g3 (V8 (keyB k)) hb (show w.heap.size ≤ g3 by have := HG3.out; omega)
    have hsf := slice74 ⟨g3, 0, none⟩
    obtain ⟨W9, hW9⟩ : ∃ W, wc.setRow g3 (V8 (keyB k)) = W := ⟨_, rfl⟩
    rw [hW9] at hcp z2' z3' hb'
    obtain ⟨m, hm⟩ : ∃ m, q.length = m := ⟨_, rfl⟩
    rw [hm] at hcp ⊢
    have Z2 := Lib.hid z2'
    have Z3 := Lib.hid z3'
    have HB := Lib.hid hb'
    clear hkq z2 z3 hb hc' hr' hn' z2' z3' hb' hW9 hm hq64
    go_wp2_with (first | ((with_reducible show wpList _ _ _ (⟨some 15, .load 74 (.tmp 3), _, _, _, _⟩ :: _) _ _); refine wpList_load_row rfl 74 (.tmp 3) rfl g3 rfl 74 (V8 (keyB k)) _ Z3.out Try.underlying74 rfl HSK.out ?_) | ((with_reducible show wpList _ _ _ (⟨none, .store 74 (.tmp 2) (.tmp 15), _, _, _, _⟩ :: _) _ _); refine wpList_store_row rfl 74 (.tmp 2) (.tmp 15) rfl w.heap.size (V8 (keyB k)) rfl rfl 74 _ Z2.out HSK.out HZK.out (V8_one _) ?_) | fail)
    have gz := setRow_heap W9 w.heap.size _ (V8 (keyB k)) _ _ Z2.out
    have hrv := run_loadVar_row (P := Try.prog) (W9.setRow w.heap.size (V8 (keyB k))) w.heap.size 74 74 (V8 (keyB k)) (0, 0) _ gz Try.underlying74 rfl HSK.out
    exact bodyPost_ret (v := .agg (V8 (keyB k))) (by simp [results, Try.results86, asAddr, hrv, Act.put]) rfl ⟨rfl, below_setRow _ _ HB.out (Nat.le_refl _)⟩
end Go.Proofs.Ytjaakhjfpigdfaa
/-! The document's block of a key. -/
namespace Go.Proofs.Ytjaakhjfpigdfaa
open Go.RowKit
set_option linter.unusedVariables false
set_option linter.unusedSimpArgs false
set_option maxRecDepth 100000 in
set_option maxHeartbeats 4000000 in
theorem block_any (k : By) (v : Value) (w : World) (hE : EqN w k v) (hl : k.length ≤ 1000000) : Calls Try.prog 88 #[v] w fun e w' => ∃ v, e = .returned v ∧ EqN w' (keyB k) v ∧ Below w.heap.size w w' := by
  obtain ⟨i0, hi0, hz0, hz1, hz2⟩ := info_parts info5
  have hz32 := zeros32
  have hzs32 : (V8 (List.replicate 32 0)).size = 32 := by rw [V8_size]; rfl
  obtain ⟨Zr, hZr⟩ : ∃ Z, V8 (List.replicate 32 0) = Z := ⟨_, rfl⟩
  rw [hZr] at hz32 hzs32
  have HZ32 := Lib.hid hz32
  have HZS32 := Lib.hid hzs32
  clear hz32 hzs32 hZr
  have HE := Lib.hid hE
  obtain ⟨A, c, rfl, hc, hr, hn⟩ := hE
  obtain ⟨n, hkn⟩ : ∃ n, k.length = n := ⟨_, rfl⟩
  have HKN := Lib.hid hkn
  have HR := Lib.hid hr
  have HN := Lib.hid hn
  rw [hkn] at hc hl HE ⊢
  clear hr hn hkn
  go_enter Try.func88, Try.ntmps88
  go_upto_if 10 with (first | ((with_reducible show wpList _ _ _ (⟨some 5, .buildSlice 35 0 #[], _, _, _, _⟩ :: _) _ _); refine wpList_buildSlice0 rfl 35 5 rfl i0 Try.underlying35 hi0 ?_; try simp only [Act.put, List.setIfInBounds_toArray, List.set_cons_zero, List.set_cons_succ]; obtain ⟨W2, hW2⟩ : ∃ W, w.alloc (.cells #[] 5) = W := ⟨_, rfl⟩; have HB2 := Lib.hid (show Below w.heap.size w W2 by rw [← hW2]; exact below_alloc1 _ _); have OZ := Lib.hid (show W2.ownsRow w.heap.size 5 1 (.slice (some ⟨w.heap.size, 0, none⟩) 0 0) 0 [] by rw [← hW2]; exact own_zero (heap_new _ _ _ rfl) (Nat.le_refl _)); have HR2 := Lib.hid (show RdB W2 A k from HR.out.below HB2.out (fun _ _ h => h)); rw [hW2]; clear hW2) | (at_builtin; refine wpList_append_bytes rfl (.tmp 5) (.tmp 6) rfl w.heap.size _ 0 [] rfl OZ.out A c k (by rw [HKN.out]; rfl) HR2.out HN.out (by rw [HKN.out]; exact hc) (by rw [HKN.out]; omega) HB2.out.size ?_; intro v3 w5 hown hgrow _; have hb5 : Below w.heap.size w w5 := HB2.out.trans ((Below.refl _ _).grown hgrow HB2.out.size (own_base' OZ.out)); have HO5 := Lib.hid hown; have HB5 := Lib.hid hb5; clear hown hgrow hb5) | fail)
  go_cut [3, 4] from 11 to 15 (fun v3 v4 wx => ∃ q : By, wx.ownsRow w.heap.size 5 1 v3 q.length (bytesV q) ∧ q.length ≤ 64 ∧ keyB k = q ++ List.replicate (64 - q.length) 0 ∧ Below w.heap.size w wx)
  case first =>
    by_cases h6 : 64 < n
    · have hdt : decide ((64 : Int) < (n : Int)) = true := by simp; omega
      have S1 := Lib.hid (rof_any k (.slice A n c) w5 (HE.out.below HB5.out) (by rw [HKN.out]; omega))
      have hsl := sumL_len k
      have HQ := Lib.hid (show keyB k = sumL k ++ List.replicate (64 - (sumL k).length) 0 by rw [sumL_len]; unfold keyB; rw [if_pos (by rw [HKN.out]; exact h6)])
      obtain ⟨Y, hY⟩ : ∃ Y, sumL k = Y := ⟨_, rfl⟩
      rw [hY] at S1 hsl HQ
      have HSY := Lib.hid (show (Try.prog.info? 24).map (·.size) = some (V8 Y).size by rw [V8_size, hsl]; kernel_rfl)
      have HZY := Lib.hid (show Zr.size = (V8 Y).size by rw [V8_size, hsl, HZS32.out])
      have HYL := Lib.hid hsl
      clear hsl hY HO5
      go_wp2_with fail
      refine S1.out.mono ?_
      rintro e w6 ⟨rfl, hb6⟩
      have HB6 := Lib.hid (HB5.out.trans (hb6.mono HB5.out.size))
      clear S1 hb6 HB5
      go_upto_region 4 with (first | ((with_reducible show wpList _ _ _ (⟨none, .store 24 (.tmp 4) (.tmp 12), _, _, _, _⟩ :: _) _ _); rw [← HZ32.out]; refine wpList_store_row rfl 24 (.tmp 4) (.tmp 12) rfl w6.heap.size (V8 Y) rfl rfl 24 _ (heap_new _ _ _ rfl) HSY.out HZY.out (V8_one _) ?_) | fail)
      generalize hW7 : (World.setRow _ _ _) = W7
      obtain ⟨g4, hg4⟩ : ∃ g, w6.heap.size = g := ⟨_, rfl⟩
      have b7 : Below w6.heap.size w6 W7 := by rw [← hW7]; exact below_setRow _ _ ((Below.refl _ _).alloc (Nat.le_refl _) _) (Nat.le_refl _)
      have y7 : W7.heap[g4]? = some (.cells (V8 Y) 24 (0, 0)) := by rw [← hW7, ← hg4]; exact setRow_heap _ _ _ _ _ _ (heap_new _ _ _ rfl)
      have HE7 := Lib.hid (EqN.arr y7 32 HYL.out (by decide))
      have HB7 := Lib.hid (HB6.out.trans (b7.mono HB6.out.size))
      have hsf := slice24 ⟨g4, 0, none⟩
      have hs7 := HB7.out.size
      rw [hg4]
      clear hW7 b7 y7 HB6 hg4
      obtain ⟨A7, c7, e7, hc7, hr7, hn7⟩ := HE7.out
      simp only [Value.slice.injEq] at e7
      obtain ⟨rfl, _, rfl⟩ := e7
      have HR7 := Lib.hid hr7
      clear hr7 hn7 hc7
      go_wp2_with (first | ((with_reducible show wpList _ _ _ (⟨some 13, .buildSlice 35 0 #[], _, _, _, _⟩ :: _) _ _); refine wpList_buildSlice0 rfl 35 5 rfl i0 Try.underlying35 hi0 ?_; try simp only [Act.put, List.setIfInBounds_toArray, List.set_cons_zero, List.set_cons_succ]; obtain ⟨W8, hW8⟩ : ∃ W, W7.alloc (.cells #[] 5) = W := ⟨_, rfl⟩; have HB8 := Lib.hid (show Below w.heap.size w W8 by rw [← hW8]; exact HB7.out.alloc hs7 _); have OZ8 := Lib.hid (show W8.ownsRow w.heap.size 5 1 (.slice (some ⟨W7.heap.size, 0, none⟩) 0 0) 0 [] by rw [← hW8]; exact own_zero (heap_new _ _ _ rfl) hs7); have HR8 := Lib.hid (show RdB W8 (some ⟨g4, 0, none⟩) Y from HR7.out.below (by rw [← hW8]; exact below_alloc1 _ _) (fun _ _ h => h)); rw [hW8]; clear hW8) | (at_builtin; refine wpList_append_bytes rfl (.tmp 13) (.tmp 14) rfl w.heap.size _ 0 [] rfl OZ8.out (some ⟨g4, 0, none⟩) 32 Y (by rw [HYL.out]; rfl) HR8.out (fun h => by cases h) (by rw [HYL.out]; decide) (by rw [HYL.out]; decide) HB8.out.size ?_; intro v3 w9 hown hgrow _; have hb9 : Below w.heap.size w w9 := HB8.out.trans ((Below.refl _ _).grown hgrow HB8.out.size (own_base' OZ8.out)); have HO9 := Lib.hid hown; have HB9 := Lib.hid hb9; clear hown hgrow hb9) | fail)
      try rw [← hdt]
      go_meet
      case rel => exact ⟨Y, by have h := HO9.out; rw [List.nil_append, Nat.zero_add] at h; exact h, by rw [HYL.out]; decide, HQ.out, HB9.out⟩
    · go_wp2
      go_meet
      case rel => exact ⟨k, by have h := HO5.out; rw [List.nil_append, Nat.zero_add] at h; exact h, by rw [HKN.out]; omega, (by unfold keyB; rw [if_neg (by rw [HKN.out]; exact h6)]), HB5.out⟩
  case rest =>
    obtain ⟨q, hown, hq64, hkq, hb⟩ := hcut
    have HO := Lib.hid hown
    have HKQ := Lib.hid hkq
    have HB := Lib.hid hb
    obtain ⟨m, hm⟩ : ∃ m, q.length = m := ⟨_, rfl⟩
    rw [hm] at hq64 HKQ HO
    have HM := Lib.hid hm
    clear HO5 HB5 hown hkq hb hm OZ HB2 HR2
    go_wp2
    go_loopg [3] 64 (fun gk v3 wr => ∃ j : Nat, gk = 64 - j ∧ m + j ≤ 64 ∧ wr.ownsRow w.heap.size 5 1 v3 (m + j) (bytesV (q ++ List.replicate j 0)) ∧ Below w.heap.size w wr)
    case atStart => exact ⟨0, rfl, by omega, by simpa using HO.out, HB.out⟩
    case round =>
      obtain ⟨j, rfl, hj, hown, hbel⟩ := hrel
      have hsr := hbel.size
      have HO1 := Lib.hid hown
      have HB1 := Lib.hid hbel
      obtain ⟨A3, n3, c3, rfl, hn3⟩ : ∃ A n c, u3 = .slice A n c ∧ n = m + j := by
        rcases Joins.ownsRow_forms hown with ⟨rfl, h0⟩ | ⟨g, cap, rfl⟩
        · exact ⟨_, _, _, rfl, h0.symm⟩
        · exact ⟨_, _, _, rfl, rfl⟩
      subst hn3
      clear hown hbel HO HB
      by_cases hlt : m + j < 64
      · have hlI : (m : Int) + (j : Int) < 64 := by omega
        go_wp2_with (first | (at_builtin; refine wpList_append_own _ rfl (.tmp 19) (.tmp 20) 35 rfl w.heap.size 5 i0 (.int .u8 0) 1 1 Try.underlying35 hi0 hz0 hz1 hz2 rfl (by decide) _ (m + j) _ rfl (HO1.out.alloc _) ⟨wr.heap.size, 0, none⟩ 1 1 [.int .u8 0] rfl rfl (cell_one_at _ _ _ _ rfl) (oneB _) (by unfold maxLen; omega) (by omega) (by simp; omega) ?_; intro v' w3 hown' hgrow _; have hb3 : Below w.heap.size w w3 := (HB1.out.alloc hsr _).grown hgrow (by simp; omega) (own_base' HO1.out); have HO3 := Lib.hid hown'; have HB3 := Lib.hid hb3; clear hown' hgrow hb3) | fail)
        go_roundg (64 - (j + 1))
        case measure => omega
        case rel =>
          refine ⟨j + 1, rfl, by omega, ?_, HB3.out⟩
          have ho := HO3.out
          rw [show (Value.int IntKind.u8 0) = Value.int IntKind.u8 ((0#8).toNat : Int) from rfl, bytesV_snoc] at ho
          rw [show q ++ List.replicate (j + 1) 0 = q ++ List.replicate j 0 ++ [0] by rw [List.append_assoc, List.replicate_succ']]
          exact ho
      · have hlI : ¬ (m : Int) + (j : Int) < 64 := by omega
        have HE9 := Lib.hid (show EqN wr (keyB k) (.slice A3 (m + j) c3) from by
          rw [HKQ.out, show 64 - m = j by omega]
          exact EqN.own HO1.out)
        go_wp2
        go_ret
        exact ⟨_, rfl, HE9.out, HB1.out⟩
end Go.Proofs.Ytjaakhjfpigdfaa
/-! mac.Sum. -/
namespace Go.Proofs.Ytjaakhjfpigdfaa
open Go.RowKit
set_option linter.unusedVariables false
set_option linter.unusedSimpArgs false
def pdMS (KB D Z : By) (g6 : Nat) : Nat → Value → World → Prop
  | 0 => fun v w => v = .agg (V8 KB)
  | 1 => fun v w => EqN w (xorB KB 0x5c#8) v
  | 2 => fun v w => v = .slice (some ⟨g6, 0, none⟩) 32 32
  | 3 => fun v w => ∃ g, v = .slice (some ⟨g, 0, none⟩) 2 2 ∧ RdN w (some ⟨g, 0, none⟩) [xorB KB 0x5c#8, D]
  | 4 => fun v w => v = .agg (V8 Z)
  | _ => fun _ _ => True
theorem pdMS_mono (KB D Z : By) (g6 : Nat) : ∀ q0 v w w', pdMS KB D Z g6 q0 v w → Below w.heap.size w w' → pdMS KB D Z g6 q0 v w'
  | 0, _, _, _, h, _ => h
  | 1, _, _, _, h, hb => EqN.below h hb
  | 2, _, _, _, h, _ => h
  | 3, _, _, _, h, hb => by obtain ⟨g, e, h2⟩ := h; exact ⟨g, e, h2.below hb⟩
  | 4, _, _, _, h, _ => h
  | _ + 5, _, _, _, _, _ => trivial
set_option maxRecDepth 100000 in
set_option maxHeartbeats 4000000 in
theorem msum_any (k : By) (kv : Value) (ps : List By) (ad : Addr) (c : Nat) (w : World) (hk : EqN w k kv) (hkl : k.length ≤ 1000000) (hr : RdN w (some ad) ps) (hc : ps.length ≤ c) (hpl : ps.length ≤ 1000) (hfl : ps.flatten.length ≤ 1000000) : Calls Try.prog 46 #[kv, .slice (some ad) ps.length c] w fun e w' => e = .returned (.agg (V8 (macL k ps.flatten))) ∧ Below w.heap.size w w' := by
  obtain ⟨i35, hi35', hz35', hs35', hb35⟩ := info_parts info35
  have HI35 := Lib.hid hi35'
  have HZ35 := Lib.hid hz35'
  have HS35 := Lib.hid hs35'
  have hz := zeros64b
  have hzs : (V8 (List.replicate 64 0)).size = 64 := by rw [V8_size]; rfl
  obtain ⟨Zb, hZb⟩ : ∃ Z, V8 (List.replicate 64 0) = Z := ⟨_, rfl⟩
  rw [hZb] at hz hzs
  have HZ := Lib.hid hz
  have HZS := Lib.hid hzs
  have hz32 := zeros32
  have hzs32 : (V8 (List.replicate 32 0)).size = 32 := by rw [V8_size]; rfl
  obtain ⟨Zr, hZr⟩ : ∃ Z, V8 (List.replicate 32 0) = Z := ⟨_, rfl⟩
  rw [hZr] at hz32 hzs32
  have HZ32 := Lib.hid hz32
  have HZS32 := Lib.hid hzs32
  clear hz hzs hZb hz32 hzs32 hZr hi35' hz35' hs35' hb35
  have hml := macL_len k ps.flatten
  have hkb := keyB_len k
  obtain ⟨Z, hZ2⟩ : ∃ Z, macL k ps.flatten = Z := ⟨_, rfl⟩
  rw [hZ2] at hml ⊢
  have HSZ := Lib.hid (show (Try.prog.info? 25).map (·.size) = some (V8 Z).size by rw [V8_size, hml]; kernel_rfl)
  have HZZ0 := Lib.hid (show Zr.size = (V8 Z).size by rw [V8_size, hml]; exact HZS32.out)
  have hz3 : sumL (xorB (keyB k) 0x5c#8 ++ sumL (xorB (keyB k) 0x36#8 ++ ps.flatten)) = Z := hZ2
  have OF := Lib.hid (fun (w' : World) (hb : Below w.heap.size w w') => of_any k kv w' (hk.below hb) hkl)
  obtain ⟨KB, hK⟩ : ∃ KB, keyB k = KB := ⟨_, rfl⟩
  rw [hK] at hz3 hkb OF
  have hxl : (xorB KB 0x36#8).length = 64 := by rw [xorB_len]; exact hkb
  have hDl := sumL_len (xorB KB 0x36#8 ++ ps.flatten)
  obtain ⟨D, hD⟩ : ∃ D, sumL (xorB KB 0x36#8 ++ ps.flatten) = D := ⟨_, rfl⟩
  rw [hD] at hz3 hDl
  have HD := Lib.hid hD
  have HZZ := Lib.hid hz3
  have HKL := Lib.hid hkb
  have HDL := Lib.hid hDl
  have HXL := Lib.hid hxl
  have HFL := Lib.hid (show [xorB KB 0x5c#8, D].flatten = xorB KB 0x5c#8 ++ D by simp)
  have HFM := Lib.hid (show (xorB KB 0x5c#8 ++ D).length ≤ 140737488355000 by rw [List.length_append, xorB_len, hkb, hDl]; decide)
  have HSK := Lib.hid (show (Try.prog.info? 74).map (·.size) = some (V8 KB).size by rw [V8_size, hkb]; kernel_rfl)
  have HZK := Lib.hid (show Zb.size = (V8 KB).size by rw [V8_size, hkb]; exact HZS.out)
  have HSD := Lib.hid (show (Try.prog.info? 25).map (·.size) = some (V8 D).size by rw [V8_size, hDl]; kernel_rfl)
  have HZD := Lib.hid (show Zr.size = (V8 D).size by rw [V8_size, hDl]; exact HZS32.out)
  have HR := Lib.hid hr
  obtain ⟨n, hn⟩ : ∃ n, ps.length = n := ⟨_, rfl⟩
  rw [hn] at hc hpl ⊢
  have HN := Lib.hid hn
  have HFLL := Lib.hid hfl
  clear hK hz3 hkb hxl hDl hD hZ2 hml hr hfl hn hkl hk
  have z4 := Lib.hid (heap_new w (.cells Zr 25) w.heap.size rfl)
  have b4 := Lib.hid (below_alloc1 w (.cells Zr 25))
  go_enter Try.func46, Try.ntmps46
  go_upto_region 1 with (fail)
  rw [← HZ32.out]
  obtain ⟨W4, hW4⟩ : ∃ W, w.alloc (.cells Zr 25) = W := ⟨_, rfl⟩
  rw [hW4] at z4 b4 ⊢
  clear hW4
  go_wp2_with fail
  refine (OF.out _ b4.out).mono ?_
  rintro e w5 ⟨rfl, hb5⟩
  have Z5 := Lib.hid (keepH hb5 z4.out)
  have B5 := Lib.hid (b4.out.trans (hb5.mono b4.out.size))
  clear z4 b4 hb5 OF
  go_upto_region 2 with (first | ((with_reducible show wpList _ _ _ (⟨none, .store 74 (.tmp 5) (.tmp 8), _, _, _, _⟩ :: _) _ _); rw [← HZ.out]; refine wpList_store_row rfl 74 (.tmp 5) (.tmp 8) rfl w5.heap.size (V8 KB) rfl rfl 74 _ (heap_new _ _ _ rfl) HSK.out HZK.out (V8_one _) ?_) | fail)
  generalize hW6 : (World.setRow _ _ _) = W6
  obtain ⟨g5, hg5⟩ : ∃ g, w5.heap.size = g := ⟨_, rfl⟩
  have b6 : Below w5.heap.size w5 W6 := by rw [← hW6]; exact below_setRow _ _ ((Below.refl _ _).alloc (Nat.le_refl _) _) (Nat.le_refl _)
  have K6 := Lib.hid (show W6.heap[g5]? = some (.cells (V8 KB) 74 (0, 0)) by rw [← hW6, ← hg5]; exact setRow_heap _ _ _ _ _ _ (heap_new _ _ _ rfl))
  have Z6 := Lib.hid (keepH b6 Z5.out)
  have B6 := Lib.hid (B5.out.trans (b6.mono B5.out.size))
  have WI := Lib.hid (show Calls Try.prog 87 #[.agg (V8 KB), .int .u8 54] W6 fun e w' => ∃ v, e = .returned v ∧ EqN w' (xorB KB 0x36#8) v ∧ Below W6.heap.size W6 w' from with_any KB HKL.out 0x36#8 W6)
  rw [hg5]
  clear hW6 hg5 b6 Z5 B5
  go_wp2_with (first | ((with_reducible show wpList _ _ _ (⟨some 9, .load 74 (.tmp 5), _, _, _, _⟩ :: _) _ _); refine wpList_load_row rfl 74 (.tmp 5) rfl g5 rfl 74 (V8 KB) _ K6.out Try.underlying74 rfl HSK.out ?_) | fail)
  refine WI.out.mono ?_
  rintro e w7 ⟨v10, rfl, hE10, hb7⟩
  have K7 := Lib.hid (keepH hb7 K6.out)
  have Z7 := Lib.hid (keepH hb7 Z6.out)
  have B7 := Lib.hid (B6.out.trans (hb7.mono B6.out.size))
  have HE10 := Lib.hid hE10
  obtain ⟨A10, n10, c10, hv10⟩ : ∃ a n c, v10 = .slice a n c := by obtain ⟨a, c, e, _⟩ := hE10; exact ⟨a, _, c, e⟩
  have O8 := Lib.hid (show OwnP w7 (w7.alloc (.cells #[v10] 35)) w7.heap.size (.slice (some ⟨w7.heap.size, 0, none⟩) 1 1) [xorB KB 0x36#8] from OwnP.one (heap_new _ _ _ rfl) (Nat.le_refl _) hE10)
  have B8 := Lib.hid (show Below w.heap.size w (w7.alloc (.cells #[v10] 35)) from B7.out.alloc B7.out.size _)
  have HS8 := Lib.hid (show w7.heap.size ≤ (w7.alloc (.cells #[v10] 35)).heap.size from by simp)
  have HR7 := Lib.hid (show RdN w7 (some ad) ps from HR.out.below B7.out)
  have HB78 := Lib.hid (show Below w7.heap.size w7 (w7.alloc (.cells #[v10] 35)) from below_alloc1 _ _)
  subst hv10
  clear WI hb7 K6 Z6 B6 hE10
  obtain ⟨W8, hW8⟩ : ∃ W, w7.alloc (.cells #[.slice A10 n10 c10] 35) = W := ⟨_, rfl⟩
  rw [hW8] at O8 B8 HS8 HB78
  have HW8 := Lib.hid hW8
  clear hW8
  have SM := Lib.hid (show ∀ w9 A c, RdN w9 A (xorB KB 0x36#8 :: ps) → (xorB KB 0x36#8 :: ps).length ≤ c → Calls Try.prog 25 #[.slice A (xorB KB 0x36#8 :: ps).length c] w9 fun e w' => e = .returned (.agg (V8 D)) ∧ Below w9.heap.size w9 w' from fun w9 A c h1 h2 => by
    have h := sum_any (xorB KB 0x36#8 :: ps) A c w9 h1 h2 (by rw [List.flatten_cons, List.length_append, HXL.out]; have := HFLL.out; omega)
    rw [List.flatten_cons, HD.out] at h
    exact h)
  go_wp2_with (first | (at_builtin; rw [HW8.out]; refine wpList_append_rows rfl (.tmp 11) (.tmp 12) rfl w7.heap.size _ [xorB KB 0x36#8] rfl O8.out ad c ps (by rw [HN.out]; rfl) HR7.out HB78.out (by rw [HN.out]; exact hc) (by rw [HN.out]; simp; omega) HS8.out ?_; intro v13 w9 hown hb9; have HO9 := Lib.hid hown; have B79 := Lib.hid (HB78.out.trans hb9); clear hown hb9) | fail)
  obtain ⟨A13, c13, rfl, hc13, hr13⟩ := HO9.out.rd B79.out
  have hcall := SM.out w9 A13 c13 hr13 hc13
  have B9 := Lib.hid (B7.out.trans (B79.out.mono B7.out.size))
  have K9 := Lib.hid (keepH B79.out K7.out)
  have Z9 := Lib.hid (keepH B79.out Z7.out)
  clear hr13 hc13 HO9 SM O8 HW8 HS8 B8 HB78 HR7 HE10 K7 Z7 B7 B79
  refine hcall.mono ?_
  rintro e w10 ⟨rfl, hb10⟩
  have K10 := Lib.hid (keepH hb10 K9.out)
  have Z10 := Lib.hid (keepH hb10 Z9.out)
  have B10 := Lib.hid (B9.out.trans (hb10.mono B9.out.size))
  clear hcall hb10 K9 Z9 B9
  go_upto_region 3 with (first | ((with_reducible show wpList _ _ _ (⟨none, .store 25 (.tmp 6) (.tmp 14), _, _, _, _⟩ :: _) _ _); rw [← HZ32.out]; refine wpList_store_row rfl 25 (.tmp 6) (.tmp 14) rfl w10.heap.size (V8 D) rfl rfl 25 _ (heap_new _ _ _ rfl) HSD.out HZD.out (V8_one _) ?_) | fail)
  generalize hW11 : (World.setRow _ _ _) = W11
  obtain ⟨g6, hg6⟩ : ∃ g, w10.heap.size = g := ⟨_, rfl⟩
  have b11 : Below w10.heap.size w10 W11 := by rw [← hW11]; exact below_setRow _ _ ((Below.refl _ _).alloc (Nat.le_refl _) _) (Nat.le_refl _)
  have D6 := Lib.hid (EqN.arr (show W11.heap[g6]? = some (.cells (V8 D) 25 (0, 0)) by rw [← hW11, ← hg6]; exact setRow_heap _ _ _ _ _ _ (heap_new _ _ _ rfl)) 32 HDL.out (by decide))
  have K5 := Lib.hid (keepH b11 K10.out)
  have Z11 := Lib.hid (keepH b11 Z10.out)
  have B11 := Lib.hid (B10.out.trans (b11.mono B10.out.size))
  have hi35 := HI35.out
  have hz35 := HZ35.out
  have hs35 := HS35.out
  rw [hg6]
  clear hW11 hg6 b11 K10 Z10 B10
  refine wp_region_mono (w0 := _) 5 [some 15, some 16, some 17, some 18, some 19] (by kernel_rfl) (by kernel_rfl) (by kernel_rfl) (by kernel_rfl) (of_decide_eq_true (by kernel_rfl)) (by kernel_rfl) (pdMS KB D Z g6) ?_ ?_ ?_
  · exact pdMS_mono KB D Z g6
  · intro i hi o w1 b ho hbel hv hstood hsize K hK
    have hc : i = 0 ∨ i = 1 ∨ i = 2 ∨ i = 3 ∨ i = 4 := by omega
    rcases hc with rfl | rfl | rfl | rfl | rfl
    · obtain rfl : (⟨some 15, .load 74 (Operand.tmp 5), _, _, _, _⟩ : Oper) = o := Option.some.inj ho
      refine ask_plain rfl ?_
      have e1 : b.eval (.tmp 5) = .pointer (some ⟨g5, 0, none⟩) := (hstood 5 (by kernel_rfl)).trans rfl
      exact wp_load_cells 74 (.tmp 5) rfl ⟨g5, 0, none⟩ e1 (V8 KB) _ rfl (fun j v hj => by rw [add_zero_off, Joins.cell_of_block ((hbel.block _ (Array.getElem?_eq_some_iff.1 K5.out).1).trans K5.out)]; exact hj) Try.underlying74 HSK.out (hK _ _ rfl (Below.refl _ _))
    · obtain rfl : (⟨some 16, .call { callee := (Callee.value (Operand.func 87)), args := #[(Operand.tmp 15), (Operand.const (Value.int IntKind.u8 92))], argTypes := #[74, 5] }, _, _, _, _⟩ : Oper) = o := Option.some.inj ho
      refine ask_plain rfl ?_
      have e1 : b.eval (.tmp 15) = .agg (V8 KB) := hv 0 15 (by kernel_rfl) (by kernel_rfl) (of_decide_eq_true (by kernel_rfl))
      refine wp_call_fn 87 _ #[74, 5] rfl Try.f87 _ Try.func87 (by kernel_rfl) rfl #[.agg (V8 KB), .int .u8 92] (by simp [e1]; try rfl) ((with_any KB HKL.out 0x5c#8 w1).mono ?_)
      rintro e w2 ⟨v, rfl, hE, hb2⟩
      exact ⟨_, rfl, hK _ _ hE hb2⟩
    · obtain rfl : (⟨some 17, .slice 25 (Operand.tmp 6) none none none, _, _, _, _⟩ : Oper) = o := Option.some.inj ho
      refine ask_plain rfl ?_
      have e : b.eval (.tmp 6) = .pointer (some ⟨g6, 0, none⟩) := (hstood 6 (by kernel_rfl)).trans rfl
      have hf := slice25 ⟨g6, 0, none⟩ w1
      exact wp_val (.slice (some ⟨g6, 0, none⟩) 32 32) (by simp only [execOp, e, hf, Option.map_none, Sem.run_bind, Result.andThen]; rfl) (hK _ _ rfl (Below.refl _ _))
    · obtain rfl : (⟨some 18, .buildSlice 22 2 #[(0, (Operand.tmp 16)), (1, (Operand.tmp 17))], _, _, _, _⟩ : Oper) = o := Option.some.inj ho
      refine ask_plain rfl ?_
      have hE1 : EqN w1 (xorB KB 0x5c#8) (b.eval (.tmp 16)) := hv 1 16 (by kernel_rfl) (by kernel_rfl) (of_decide_eq_true (by kernel_rfl))
      have e2 : b.eval (.tmp 17) = .slice (some ⟨g6, 0, none⟩) 32 32 := hv 2 17 (by kernel_rfl) (by kernel_rfl) (of_decide_eq_true (by kernel_rfl))
      obtain ⟨A1, c1, ev1, _⟩ := id hE1
      refine wp_buildSlice 22 35 2 _ rfl #[b.eval (.tmp 16), .slice (some ⟨g6, 0, none⟩) 32 32] i35 (.slice none 0 0) Try.underlying22 hi35 hz35 (by rw [hs35]; decide) (by rw [hs35]; decide) (by rw [hs35]; simp only [List.map_toArray, List.map_cons, List.map_nil, e2, ev1]; kernel_rfl) (hK _ _ ⟨_, rfl, RdN.new2 w1 (xorB KB 0x5c#8) D _ _ 35 (0, 0) _ rfl hE1 (D6.out.below hbel)⟩ (below_alloc1 _ _))
    · obtain rfl : (⟨some 19, .call { callee := (Callee.value (Operand.func 25)), args := #[(Operand.tmp 18)], argTypes := #[22] }, _, _, _, _⟩ : Oper) = o := Option.some.inj ho
      refine ask_plain rfl ?_
      obtain ⟨gg, e1, hr2⟩ : ∃ g, b.eval (.tmp 18) = .slice (some ⟨g, 0, none⟩) 2 2 ∧ RdN w1 (some ⟨g, 0, none⟩) [xorB KB 0x5c#8, D] := hv 3 18 (by kernel_rfl) (by kernel_rfl) (of_decide_eq_true (by kernel_rfl))
      have hcall := sum_any [xorB KB 0x5c#8, D] (some ⟨gg, 0, none⟩) 2 w1 hr2 (by simp) (by rw [HFL.out]; exact HFM.out)
      rw [HFL.out, HZZ.out] at hcall
      refine wp_call_fn 25 #[.tmp 18] #[22] rfl Try.f25 _ Try.func25 (by kernel_rfl) rfl #[.slice (some ⟨gg, 0, none⟩) 2 2] (by simp [e1]) (hcall.mono ?_)
      rintro e w2 ⟨rfl, hb2⟩
      exact ⟨_, rfl, hK _ _ rfl hb2⟩
  · intro vs w12 hp hb12
    have v0 : vs 0 = .agg (V8 KB) := hp 0 (by decide)
    have v2 : vs 2 = .slice (some ⟨g6, 0, none⟩) 32 32 := hp 2 (by decide)
    have v4 : vs 4 = .agg (V8 Z) := hp 4 (by decide)
    have Z12 := Lib.hid (keepH hb12 Z11.out)
    have B12 := Lib.hid (B11.out.trans (hb12.mono B11.out.size))
    change wpList _ _ _ [_] _ _
    simp only [putD, Act.put, List.setIfInBounds_toArray, List.set_cons_zero, List.set_cons_succ, v0, v2, v4]
    generalize vs 1 = x1, vs 3 = x3
    clear v0 v2 v4 hp hb12 Z11 B11
    go_wp2_with (first | ((with_reducible show wpList _ _ _ (⟨none, .store 25 (.tmp 4) (.tmp 19), _, _, _, _⟩ :: _) _ _); refine wpList_store_row rfl 25 (.tmp 4) (.tmp 19) rfl w.heap.size (V8 Z) rfl rfl 25 _ Z12.out HSZ.out HZZ0.out (V8_one _) ?_) | fail)
    have gz := setRow_heap w12 w.heap.size _ (V8 Z) _ _ Z12.out
    have hrv := run_loadVar_row (P := Try.prog) (w12.setRow w.heap.size (V8 Z)) w.heap.size 25 25 (V8 Z) (0, 0) _ gz Try.underlying25 rfl HSZ.out
    exact bodyPost_ret (v := .agg (V8 Z)) (by simp [results, Try.results46, asAddr, hrv, Act.put]) rfl ⟨rfl, below_setRow _ _ B12.out (Nat.le_refl _)⟩
end Go.Proofs.Ytjaakhjfpigdfaa
/-! The document's MAC: Sum. -/
namespace Go.Proofs.Ytjaakhjfpigdfaa
open Go.RowKit
set_option linter.unusedVariables false
set_option linter.unusedSimpArgs false
def pdMR (v5 : Value) (KB D Z : By) (g6 : Nat) : Nat → Value → World → Prop
  | 0 => fun v w => v = v5
  | 1 => fun v w => EqN w (xorB KB 0x5c#8) v
  | 2 => fun v w => v = .slice (some ⟨g6, 0, none⟩) 32 32
  | 3 => fun v w => ∃ g, v = .slice (some ⟨g, 0, none⟩) 2 2 ∧ RdN w (some ⟨g, 0, none⟩) [xorB KB 0x5c#8, D]
  | 4 => fun v w => v = .agg (V8 Z)
  | _ => fun _ _ => True
theorem pdMR_mono (v5 : Value) (KB D Z : By) (g6 : Nat) : ∀ q0 v w w', pdMR v5 KB D Z g6 q0 v w → Below w.heap.size w w' → pdMR v5 KB D Z g6 q0 v w'
  | 0, _, _, _, h, _ => h
  | 1, _, _, _, h, hb => EqN.below h hb
  | 2, _, _, _, h, _ => h
  | 3, _, _, _, h, hb => by obtain ⟨g, e, h2⟩ := h; exact ⟨g, e, h2.below hb⟩
  | 4, _, _, _, h, _ => h
  | _ + 5, _, _, _, _, _ => trivial
set_option maxRecDepth 100000 in
set_option maxHeartbeats 4000000 in
theorem rmsum_any (k : By) (kv : Value) (ps : List By) (ad : Addr) (c : Nat) (w : World) (hk : EqN w k kv) (hkl : k.length ≤ 1000000) (hr : RdN w (some ad) ps) (hc : ps.length ≤ c) (hpl : ps.length ≤ 1000) (hfl : ps.flatten.length ≤ 1000000) : Calls Try.prog 47 #[kv, .slice (some ad) ps.length c] w fun e w' => e = .returned (.agg (V8 (macL k ps.flatten))) ∧ Below w.heap.size w w' := by
  obtain ⟨i35, hi35', hz35', hs35', hb35⟩ := info_parts info35
  have HI35 := Lib.hid hi35'
  have HZ35 := Lib.hid hz35'
  have HS35 := Lib.hid hs35'
  have hz32 := zeros32
  have hzs32 : (V8 (List.replicate 32 0)).size = 32 := by rw [V8_size]; rfl
  obtain ⟨Zr, hZr⟩ : ∃ Z, V8 (List.replicate 32 0) = Z := ⟨_, rfl⟩
  rw [hZr] at hz32 hzs32
  have HZ32 := Lib.hid hz32
  have HZS32 := Lib.hid hzs32
  clear hz32 hzs32 hZr hi35' hz35' hs35' hb35
  have hml := macL_len k ps.flatten
  have hkb := keyB_len k
  obtain ⟨Z, hZ2⟩ : ∃ Z, macL k ps.flatten = Z := ⟨_, rfl⟩
  rw [hZ2] at hml ⊢
  have HSZ := Lib.hid (show (Try.prog.info? 25).map (·.size) = some (V8 Z).size by rw [V8_size, hml]; kernel_rfl)
  have HZZ0 := Lib.hid (show Zr.size = (V8 Z).size by rw [V8_size, hml]; exact HZS32.out)
  have hz3 : sumL (xorB (keyB k) 0x5c#8 ++ sumL (xorB (keyB k) 0x36#8 ++ ps.flatten)) = Z := hZ2
  have OF := Lib.hid (fun (w' : World) (hb : Below w.heap.size w w') => block_any k kv w' (hk.below hb) hkl)
  obtain ⟨KB, hK⟩ : ∃ KB, keyB k = KB := ⟨_, rfl⟩
  rw [hK] at hz3 hkb OF
  have hxl : (xorB KB 0x36#8).length = 64 := by rw [xorB_len]; exact hkb
  have hDl := sumL_len (xorB KB 0x36#8 ++ ps.flatten)
  obtain ⟨D, hD⟩ : ∃ D, sumL (xorB KB 0x36#8 ++ ps.flatten) = D := ⟨_, rfl⟩
  rw [hD] at hz3 hDl
  have HD := Lib.hid hD
  have HZZ := Lib.hid hz3
  have HKL := Lib.hid hkb
  have HDL := Lib.hid hDl
  have HXL := Lib.hid hxl
  have HFL := Lib.hid (show [xorB KB 0x5c#8, D].flatten = xorB KB 0x5c#8 ++ D by simp)
  have HFM := Lib.hid (show (xorB KB 0x5c#8 ++ D).length ≤ 140737488355000 by rw [List.length_append, xorB_len, hkb, hDl]; decide)
  have HSD := Lib.hid (show (Try.prog.info? 24).map (·.size) = some (V8 D).size by rw [V8_size, hDl]; kernel_rfl)
  have HZD := Lib.hid (show Zr.size = (V8 D).size by rw [V8_size, hDl]; exact HZS32.out)
  have HR := Lib.hid hr
  obtain ⟨n, hn⟩ : ∃ n, ps.length = n := ⟨_, rfl⟩
  rw [hn] at hc hpl ⊢
  have HN := Lib.hid hn
  have HFLL := Lib.hid hfl
  clear hK hz3 hkb hxl hDl hD hZ2 hml hr hfl hn hkl hk
  have z4 := Lib.hid (heap_new w (.cells Zr 25) w.heap.size rfl)
  have b4 := Lib.hid (below_alloc1 w (.cells Zr 25))
  go_enter Try.func47, Try.ntmps47
  go_upto_region 1 with (fail)
  rw [← HZ32.out]
  obtain ⟨W4, hW4⟩ : ∃ W, w.alloc (.cells Zr 25) = W := ⟨_, rfl⟩
  rw [hW4] at z4 b4 ⊢
  clear hW4
  go_wp2_with fail
  refine (OF.out _ b4.out).mono ?_
  rintro e w5 ⟨v5, rfl, hE5, hb5⟩
  have Z5 := Lib.hid (keepH hb5 z4.out)
  have B5 := Lib.hid (b4.out.trans (hb5.mono b4.out.size))
  have HE5 := Lib.hid hE5
  have WI := Lib.hid (show Calls Try.prog 89 #[v5, .int .u8 54] w5 fun e w' => ∃ v, e = .returned v ∧ EqN w' (xorB KB 0x36#8) v ∧ Below w5.heap.size w5 w' from xored_any KB v5 0x36#8 w5 hE5 (by rw [HKL.out]; decide))
  clear z4 b4 hb5 OF hE5
  go_wp2_with fail
  refine WI.out.mono ?_
  rintro e w7 ⟨v10, rfl, hE10, hb7⟩
  have K7 := Lib.hid (HE5.out.below hb7)
  have Z7 := Lib.hid (keepH hb7 Z5.out)
  have B7 := Lib.hid (B5.out.trans (hb7.mono B5.out.size))
  have HE10 := Lib.hid hE10
  obtain ⟨A10, n10, c10, hv10⟩ : ∃ a n c, v10 = .slice a n c := by obtain ⟨a, c, e, _⟩ := hE10; exact ⟨a, _, c, e⟩
  have O8 := Lib.hid (show OwnP w7 (w7.alloc (.cells #[v10] 35)) w7.heap.size (.slice (some ⟨w7.heap.size, 0, none⟩) 1 1) [xorB KB 0x36#8] from OwnP.one (heap_new _ _ _ rfl) (Nat.le_refl _) hE10)
  have B8 := Lib.hid (show Below w.heap.size w (w7.alloc (.cells #[v10] 35)) from B7.out.alloc B7.out.size _)
  have HS8 := Lib.hid (show w7.heap.size ≤ (w7.alloc (.cells #[v10] 35)).heap.size from by simp)
  have HR7 := Lib.hid (show RdN w7 (some ad) ps from HR.out.below B7.out)
  have HB78 := Lib.hid (show Below w7.heap.size w7 (w7.alloc (.cells #[v10] 35)) from below_alloc1 _ _)
  subst hv10
  clear WI hb7 HE5 Z5 B5 hE10
  obtain ⟨W8, hW8⟩ : ∃ W, w7.alloc (.cells #[.slice A10 n10 c10] 35) = W := ⟨_, rfl⟩
  rw [hW8] at O8 B8 HS8 HB78
  have HW8 := Lib.hid hW8
  clear hW8
  have SM := Lib.hid (show ∀ w9 A c, RdN w9 A (xorB KB 0x36#8 :: ps) → (xorB KB 0x36#8 :: ps).length ≤ c → Calls Try.prog 26 #[.slice A (xorB KB 0x36#8 :: ps).length c] w9 fun e w' => e = .returned (.agg (V8 D)) ∧ Below w9.heap.size w9 w' from fun w9 A c h1 h2 => by
    have h := rsum_any (xorB KB 0x36#8 :: ps) A c w9 h1 h2 (by rw [List.flatten_cons, List.length_append, HXL.out]; have := HFLL.out; omega)
    rw [List.flatten_cons, HD.out] at h
    exact h)
  go_wp2_with (first | (at_builtin; rw [HW8.out]; refine wpList_append_rows rfl (.tmp 12) (.tmp 13) rfl w7.heap.size _ [xorB KB 0x36#8] rfl O8.out ad c ps (by rw [HN.out]; rfl) HR7.out HB78.out (by rw [HN.out]; exact hc) (by rw [HN.out]; simp; omega) HS8.out ?_; intro v13 w9 hown hb9; have HO9 := Lib.hid hown; have B79 := Lib.hid (HB78.out.trans hb9); clear hown hb9) | fail)
  obtain ⟨A13, c13, rfl, hc13, hr13⟩ := HO9.out.rd B79.out
  have hcall := SM.out w9 A13 c13 hr13 hc13
  have B9 := Lib.hid (B7.out.trans (B79.out.mono B7.out.size))
  have K9 := Lib.hid (K7.out.below B79.out)
  have Z9 := Lib.hid (keepH B79.out Z7.out)
  clear hr13 hc13 HO9 SM O8 HW8 HS8 B8 HB78 HR7 HE10 K7 Z7 B7 B79
  refine hcall.mono ?_
  rintro e w10 ⟨rfl, hb10⟩
  have K10 := Lib.hid (K9.out.below hb10)
  have Z10 := Lib.hid (keepH hb10 Z9.out)
  have B10 := Lib.hid (B9.out.trans (hb10.mono B9.out.size))
  clear hcall hb10 K9 Z9 B9
  go_upto_region 4 with (first | ((with_reducible show wpList _ _ _ (⟨none, .store 24 (.tmp 7) (.tmp 16), _, _, _, _⟩ :: _) _ _); rw [← HZ32.out]; refine wpList_store_row rfl 24 (.tmp 7) (.tmp 16) rfl w10.heap.size (V8 D) rfl rfl 24 _ (heap_new _ _ _ rfl) HSD.out HZD.out (V8_one _) ?_) | fail)
  generalize hW11 : (World.setRow _ _ _) = W11
  obtain ⟨g6, hg6⟩ : ∃ g, w10.heap.size = g := ⟨_, rfl⟩
  have b11 : Below w10.heap.size w10 W11 := by rw [← hW11]; exact below_setRow _ _ ((Below.refl _ _).alloc (Nat.le_refl _) _) (Nat.le_refl _)
  have D6 := Lib.hid (EqN.arr (show W11.heap[g6]? = some (.cells (V8 D) 24 (0, 0)) by rw [← hW11, ← hg6]; exact setRow_heap _ _ _ _ _ _ (heap_new _ _ _ rfl)) 32 HDL.out (by decide))
  have K5 := Lib.hid (K10.out.below b11)
  have Z11 := Lib.hid (keepH b11 Z10.out)
  have B11 := Lib.hid (B10.out.trans (b11.mono B10.out.size))
  have hi35 := HI35.out
  have hz35 := HZ35.out
  have hs35 := HS35.out
  rw [hg6]
  clear hW11 hg6 b11 K10 Z10 B10
  refine wp_region_mono (w0 := _) 5 [some 17, some 18, some 19, some 20, some 21] (by kernel_rfl) (by kernel_rfl) (by kernel_rfl) (by kernel_rfl) (of_decide_eq_true (by kernel_rfl)) (by kernel_rfl) (pdMR v5 KB D Z g6) ?_ ?_ ?_
  · exact pdMR_mono v5 KB D Z g6
  · intro i hi o w1 b ho hbel hv hstood hsize K hK
    have hc : i = 0 ∨ i = 1 ∨ i = 2 ∨ i = 3 ∨ i = 4 := by omega
    rcases hc with rfl | rfl | rfl | rfl | rfl
    · obtain rfl : (⟨some 17, .move (Operand.tmp 5), _, _, _, _⟩ : Oper) = o := Option.some.inj ho
      refine ask_plain rfl ?_
      have e : b.eval (.tmp 5) = v5 := (hstood 5 (by kernel_rfl)).trans rfl
      exact wp_val _ rfl (hK _ _ e (Below.refl _ _))
    · obtain rfl : (⟨some 18, .call { callee := (Callee.value (Operand.func 89)), args := #[(Operand.tmp 17), (Operand.const (Value.int IntKind.u8 92))], argTypes := #[35, 5] }, _, _, _, _⟩ : Oper) = o := Option.some.inj ho
      refine ask_plain rfl ?_
      have e1 : b.eval (.tmp 17) = v5 := hv 0 17 (by kernel_rfl) (by kernel_rfl) (of_decide_eq_true (by kernel_rfl))
      refine wp_call_fn 89 _ #[35, 5] rfl Try.f89 _ Try.func89 (by kernel_rfl) rfl #[v5, .int .u8 92] (by simp [e1]; try rfl) ((xored_any KB v5 0x5c#8 w1 (K5.out.below hbel) (by rw [HKL.out]; decide)).mono ?_)
      rintro e w2 ⟨v, rfl, hE, hb2⟩
      exact ⟨_, rfl, hK _ _ hE hb2⟩
    · obtain rfl : (⟨some 19, .slice 24 (Operand.tmp 7) none none none, _, _, _, _⟩ : Oper) = o := Option.some.inj ho
      refine ask_plain rfl ?_
      have e : b.eval (.tmp 7) = .pointer (some ⟨g6, 0, none⟩) := (hstood 7 (by kernel_rfl)).trans rfl
      have hf := slice24 ⟨g6, 0, none⟩ w1
      exact wp_val (.slice (some ⟨g6, 0, none⟩) 32 32) (by simp only [execOp, e, hf, Option.map_none, Sem.run_bind, Result.andThen]; rfl) (hK _ _ rfl (Below.refl _ _))
    · obtain rfl : (⟨some 20, .buildSlice 22 2 #[(0, (Operand.tmp 18)), (1, (Operand.tmp 19))], _, _, _, _⟩ : Oper) = o := Option.some.inj ho
      refine ask_plain rfl ?_
      have hE1 : EqN w1 (xorB KB 0x5c#8) (b.eval (.tmp 18)) := hv 1 18 (by kernel_rfl) (by kernel_rfl) (of_decide_eq_true (by kernel_rfl))
      have e2 : b.eval (.tmp 19) = .slice (some ⟨g6, 0, none⟩) 32 32 := hv 2 19 (by kernel_rfl) (by kernel_rfl) (of_decide_eq_true (by kernel_rfl))
      obtain ⟨A1, c1, ev1, _⟩ := id hE1
      refine wp_buildSlice 22 35 2 _ rfl #[b.eval (.tmp 18), .slice (some ⟨g6, 0, none⟩) 32 32] i35 (.slice none 0 0) Try.underlying22 hi35 hz35 (by rw [hs35]; decide) (by rw [hs35]; decide) (by rw [hs35]; simp only [List.map_toArray, List.map_cons, List.map_nil, e2, ev1]; kernel_rfl) (hK _ _ ⟨_, rfl, RdN.new2 w1 (xorB KB 0x5c#8) D _ _ 35 (0, 0) _ rfl hE1 (D6.out.below hbel)⟩ (below_alloc1 _ _))
    · obtain rfl : (⟨some 21, .call { callee := (Callee.value (Operand.func 26)), args := #[(Operand.tmp 20)], argTypes := #[22] }, _, _, _, _⟩ : Oper) = o := Option.some.inj ho
      refine ask_plain rfl ?_
      obtain ⟨gg, e1, hr2⟩ : ∃ g, b.eval (.tmp 20) = .slice (some ⟨g, 0, none⟩) 2 2 ∧ RdN w1 (some ⟨g, 0, none⟩) [xorB KB 0x5c#8, D] := hv 3 20 (by kernel_rfl) (by kernel_rfl) (of_decide_eq_true (by kernel_rfl))
      have hcall := rsum_any [xorB KB 0x5c#8, D] (some ⟨gg, 0, none⟩) 2 w1 hr2 (by simp) (by rw [HFL.out]; exact HFM.out)
      rw [HFL.out, HZZ.out] at hcall
      refine wp_call_fn 26 #[.tmp 20] #[22] rfl Try.f26 _ Try.func26 (by kernel_rfl) rfl #[.slice (some ⟨gg, 0, none⟩) 2 2] (by simp [e1]) (hcall.mono ?_)
      rintro e w2 ⟨rfl, hb2⟩
      exact ⟨_, rfl, hK _ _ rfl hb2⟩
  · intro vs w12 hp hb12
    have v0 : vs 0 = v5 := hp 0 (by decide)
    have v2 : vs 2 = .slice (some ⟨g6, 0, none⟩) 32 32 := hp 2 (by decide)
    have v4 : vs 4 = .agg (V8 Z) := hp 4 (by decide)
    have Z12 := Lib.hid (keepH hb12 Z11.out)
    have B12 := Lib.hid (B11.out.trans (hb12.mono B11.out.size))
    change wpList _ _ _ [_] _ _
    simp only [putD, Act.put, List.setIfInBounds_toArray, List.set_cons_zero, List.set_cons_succ, v0, v2, v4]
    generalize vs 1 = x1, vs 3 = x3
    clear v0 v2 v4 hp hb12 Z11 B11
    go_wp2_with (first | ((with_reducible show wpList _ _ _ (⟨none, .store 25 (.tmp 4) (.tmp 21), _, _, _, _⟩ :: _) _ _); refine wpList_store_row rfl 25 (.tmp 4) (.tmp 21) rfl w.heap.size (V8 Z) rfl rfl 25 _ Z12.out HSZ.out HZZ0.out (V8_one _) ?_) | fail)
    have gz := setRow_heap w12 w.heap.size _ (V8 Z) _ _ Z12.out
    have hrv := run_loadVar_row (P := Try.prog) (w12.setRow w.heap.size (V8 Z)) w.heap.size 25 25 (V8 Z) (0, 0) _ gz Try.underlying25 rfl HSZ.out
    exact bodyPost_ret (v := .agg (V8 Z)) (by simp [results, Try.results47, asAddr, hrv, Act.put]) rfl ⟨rfl, below_setRow _ _ B12.out (Nat.le_refl _)⟩
end Go.Proofs.Ytjaakhjfpigdfaa
/-! Of; cut. -/
namespace Go.Proofs.Ytjaakhjfpigdfaa
open Go.RowKit
set_option linter.unusedVariables false
set_option linter.unusedSimpArgs false
/-- The MAC of one row. -/
theorem msum1_any (k : By) (kv : Value) (b : By) (bv : Value) (w : World) (hk : EqN w k kv) (hkl : k.length ≤ 1000000) (hb : EqN w b bv) (hbl : b.length ≤ 1000000) : Calls Try.prog 46 #[kv, .slice (some ⟨w.heap.size, 0, none⟩) 1 1] (w.alloc (.cells #[bv] 35)) fun e w' => e = .returned (.agg (V8 (macL k b))) ∧ Below w.heap.size w w' := by
  have h := msum_any k kv [b] ⟨w.heap.size, 0, none⟩ 1 _ (hk.alloc _) hkl (RdN.new1 w b _ 35 (0, 0) _ rfl hb) (by simp) (by simp) (by simpa using hbl)
  rw [show [b].flatten = b by simp] at h
  refine h.mono ?_
  rintro e w' ⟨rfl, hb⟩
  exact ⟨rfl, (below_alloc1 _ _).trans (hb.mono (by simp))⟩
theorem rmsum1_any (k : By) (kv : Value) (b : By) (bv : Value) (w : World) (hk : EqN w k kv) (hkl : k.length ≤ 1000000) (hb : EqN w b bv) (hbl : b.length ≤ 1000000) : Calls Try.prog 47 #[kv, .slice (some ⟨w.heap.size, 0, none⟩) 1 1] (w.alloc (.cells #[bv] 35)) fun e w' => e = .returned (.agg (V8 (macL k b))) ∧ Below w.heap.size w w' := by
  have h := rmsum_any k kv [b] ⟨w.heap.size, 0, none⟩ 1 _ (hk.alloc _) hkl (RdN.new1 w b _ 35 (0, 0) _ rfl hb) (by simp) (by simp) (by simpa using hbl)
  rw [show [b].flatten = b by simp] at h
  refine h.mono ?_
  rintro e w' ⟨rfl, hb⟩
  exact ⟨rfl, (below_alloc1 _ _).trans (hb.mono (by simp))⟩
theorem EqN.form {w : World} {p : By} {v : Value} (h : EqN w p v) : ∃ a n c, v = .slice a n c := by obtain ⟨a, c, e, _⟩ := h; exact ⟨a, _, c, e⟩
set_option maxRecDepth 100000 in
set_option maxHeartbeats 4000000 in
theorem rmof_any (k : By) (kv : Value) (b : By) (bv : Value) (w : World) (hk : EqN w k kv) (hkl : k.length ≤ 1000000) (hb : EqN w b bv) (hbl : b.length ≤ 1000000) : Calls Try.prog 58 #[kv, bv] w fun e w' => e = .returned (.agg (V8 (macL k b))) ∧ Below w.heap.size w w' := by
  have hz32 := zeros32
  have hzs32 : (V8 (List.replicate 32 0)).size = 32 := by rw [V8_size]; rfl
  obtain ⟨Zr, hZr⟩ : ∃ Z, V8 (List.replicate 32 0) = Z := ⟨_, rfl⟩
  rw [hZr] at hz32 hzs32
  have HZ32 := Lib.hid hz32
  have z4 := Lib.hid (heap_new w (.cells Zr 25) w.heap.size rfl)
  have b4 := Lib.hid (below_alloc1 w (.cells Zr 25))
  have hk4 := hk.alloc (.cells Zr 25)
  have hb4 := hb.alloc (.cells Zr 25)
  obtain ⟨W4, hW4⟩ : ∃ W, w.alloc (.cells Zr 25) = W := ⟨_, rfl⟩
  rw [hW4] at z4 b4 hk4 hb4
  have S := Lib.hid (rmsum1_any k kv b bv W4 hk4 hkl hb4 hbl)
  have hml := macL_len k b
  obtain ⟨Z, hZ2⟩ : ∃ Z, macL k b = Z := ⟨_, rfl⟩
  rw [hZ2] at hml S ⊢
  have HSZ := Lib.hid (show (Try.prog.info? 25).map (·.size) = some (V8 Z).size by rw [V8_size, hml]; kernel_rfl)
  have HZZ := Lib.hid (show Zr.size = (V8 Z).size by rw [V8_size, hml, hzs32])
  obtain ⟨a1, n1, c1, rfl⟩ := hb.form
  have HW4 := Lib.hid hW4
  clear hz32 hzs32 hZr hW4 hk4 hb4 hk hb hml hZ2
  go_enter Try.func58, Try.ntmps58
  go_upto_region 1 with (fail)
  rw [← HZ32.out, HW4.out]
  clear HW4
  go_wp2_with fail
  refine S.out.mono ?_
  rintro e w5 ⟨rfl, hb5⟩
  have Z5 := Lib.hid (keepH hb5 z4.out)
  have B5 := Lib.hid (b4.out.trans (hb5.mono b4.out.size))
  clear z4 b4 hb5 S
  go_wp2_with (first | ((with_reducible show wpList _ _ _ (⟨none, .store 25 (.tmp 4) (.tmp 8), _, _, _, _⟩ :: _) _ _); refine wpList_store_row rfl 25 (.tmp 4) (.tmp 8) rfl w.heap.size (V8 Z) rfl rfl 25 _ Z5.out HSZ.out HZZ.out (V8_one _) ?_) | fail)
  have gz := setRow_heap w5 w.heap.size _ (V8 Z) _ _ Z5.out
  have hrv := run_loadVar_row (P := Try.prog) (w5.setRow w.heap.size (V8 Z)) w.heap.size 25 25 (V8 Z) (0, 0) _ gz Try.underlying25 rfl HSZ.out
  exact bodyPost_ret (v := .agg (V8 Z)) (by simp [results, Try.results58, asAddr, hrv, Act.put]) rfl ⟨rfl, below_setRow _ _ B5.out (Nat.le_refl _)⟩
set_option maxRecDepth 100000 in
theorem run_take (A : Option Addr) (n c m : Nat) (hm : m ≤ c) (w : World) : (Instr.sliceAt 35 (.slice A n c) none (some (.int .i64 (m : Int))) none).run Try.prog w = .ok (.slice A m c) w := by
  have h2 : (m : Int) ≤ (c : Int) := by omega
  rw [run_sliceAt_slice w 35 _ _ _ _ Try.underlying35]
  rw [run_slice_h w 35 A n c Try.underlying35 .i64 m (by omega) h2]
  simp [go_sem, Try.underlying35]
set_option maxRecDepth 100000 in
theorem cut4_any (b : By) (bv : Value) (w : World) (hb : EqN w b bv) : Calls Try.prog 45 #[bv] w fun e w' => ∃ v, e = .returned v ∧ EqN w (b.take 2000) v ∧ w = w' := by
  have HE := Lib.hid hb
  obtain ⟨A, c, rfl, hc, hr, hn⟩ := hb
  have hr1 := hr.1
  obtain ⟨n, hn2⟩ : ∃ n, b.length = n := ⟨_, rfl⟩
  by_cases h : 2000 < n
  · have hT := Lib.hid (HE.out.take 2000 (by omega))
    rw [hn2] at hc hr1 ⊢
    have hI : (2000 : Int) < (n : Int) := by omega
    have hcI : (2000 : Int) ≤ (c : Int) := by omega
    clear HE hr hn hn2
    go_enter Try.func45, Try.ntmps45
    go_wp2
    go_ret
    exact ⟨_, rfl, hT.out, rfl⟩
  · have hT := Lib.hid (show EqN w (b.take 2000) (.slice A n c) by rw [List.take_of_length_le (by omega), ← hn2]; exact HE.out)
    rw [hn2] at hc hr1 ⊢
    have hI : ¬ (2000 : Int) < (n : Int) := by omega
    clear HE hr hn hn2
    go_enter Try.func45, Try.ntmps45
    go_wp2
    go_ret
    exact ⟨_, rfl, hT.out, rfl⟩
end Go.Proofs.Ytjaakhjfpigdfaa
/-! The MAC that everybody knows: found by the kernel, step by step. -/
namespace Go.Proofs.Ytjaakhjfpigdfaa
open Go.RowKit
set_option linter.unusedVariables false
set_option linter.unusedSimpArgs false
def awKey : By := [74#8, 101#8, 102#8, 101#8]
def awMsg : By := [119#8, 104#8, 97#8, 116#8, 32#8, 100#8, 111#8, 32#8, 121#8, 97#8, 32#8, 119#8, 97#8, 110#8, 116#8, 32#8, 102#8, 111#8, 114#8, 32#8, 110#8, 111#8, 116#8, 104#8, 105#8, 110#8, 103#8, 63#8]
def awKb : By := [74#8, 101#8, 102#8, 101#8, 0#8, 0#8, 0#8, 0#8, 0#8, 0#8, 0#8, 0#8, 0#8, 0#8, 0#8, 0#8, 0#8, 0#8, 0#8, 0#8, 0#8, 0#8, 0#8, 0#8, 0#8, 0#8, 0#8, 0#8, 0#8, 0#8, 0#8, 0#8, 0#8, 0#8, 0#8, 0#8, 0#8, 0#8, 0#8, 0#8, 0#8, 0#8, 0#8, 0#8, 0#8, 0#8, 0#8, 0#8, 0#8, 0#8, 0#8, 0#8, 0#8, 0#8, 0#8, 0#8, 0#8, 0#8, 0#8, 0#8, 0#8, 0#8, 0#8, 0#8]
def awM1 : By := [124#8, 83#8, 80#8, 83#8, 54#8, 54#8, 54#8, 54#8, 54#8, 54#8, 54#8, 54#8, 54#8, 54#8, 54#8, 54#8, 54#8, 54#8, 54#8, 54#8, 54#8, 54#8, 54#8, 54#8, 54#8, 54#8, 54#8, 54#8, 54#8, 54#8, 54#8, 54#8, 54#8, 54#8, 54#8, 54#8, 54#8, 54#8, 54#8, 54#8, 54#8, 54#8, 54#8, 54#8, 54#8, 54#8, 54#8, 54#8, 54#8, 54#8, 54#8, 54#8, 54#8, 54#8, 54#8, 54#8, 54#8, 54#8, 54#8, 54#8, 54#8, 54#8, 54#8, 54#8, 119#8, 104#8, 97#8, 116#8, 32#8, 100#8, 111#8, 32#8, 121#8, 97#8, 32#8, 119#8, 97#8, 110#8, 116#8, 32#8, 102#8, 111#8, 114#8, 32#8, 110#8, 111#8, 116#8, 104#8, 105#8, 110#8, 103#8, 63#8]
def awM2 : By := [22#8, 57#8, 58#8, 57#8, 92#8, 92#8, 92#8, 92#8, 92#8, 92#8, 92#8, 92#8, 92#8, 92#8, 92#8, 92#8, 92#8, 92#8, 92#8, 92#8, 92#8, 92#8, 92#8, 92#8, 92#8, 92#8, 92#8, 92#8, 92#8, 92#8, 92#8, 92#8, 92#8, 92#8, 92#8, 92#8, 92#8, 92#8, 92#8, 92#8, 92#8, 92#8, 92#8, 92#8, 92#8, 92#8, 92#8, 92#8, 92#8, 92#8, 92#8, 92#8, 92#8, 92#8, 92#8, 92#8, 92#8, 92#8, 92#8, 92#8, 92#8, 92#8, 92#8, 92#8, 162#8, 228#8, 133#8, 134#8, 61#8, 39#8, 249#8, 216#8, 100#8, 172#8, 141#8, 128#8, 36#8, 50#8, 161#8, 237#8, 71#8, 125#8, 140#8, 76#8, 111#8, 52#8, 157#8, 22#8, 212#8, 231#8, 233#8, 23#8, 198#8, 41#8, 202#8, 215#8]
def awB0 : By := [124#8, 83#8, 80#8, 83#8, 54#8, 54#8, 54#8, 54#8, 54#8, 54#8, 54#8, 54#8, 54#8, 54#8, 54#8, 54#8, 54#8, 54#8, 54#8, 54#8, 54#8, 54#8, 54#8, 54#8, 54#8, 54#8, 54#8, 54#8, 54#8, 54#8, 54#8, 54#8, 54#8, 54#8, 54#8, 54#8, 54#8, 54#8, 54#8, 54#8, 54#8, 54#8, 54#8, 54#8, 54#8, 54#8, 54#8, 54#8, 54#8, 54#8, 54#8, 54#8, 54#8, 54#8, 54#8, 54#8, 54#8, 54#8, 54#8, 54#8, 54#8, 54#8, 54#8, 54#8]
def awB1 : By := [119#8, 104#8, 97#8, 116#8, 32#8, 100#8, 111#8, 32#8, 121#8, 97#8, 32#8, 119#8, 97#8, 110#8, 116#8, 32#8, 102#8, 111#8, 114#8, 32#8, 110#8, 111#8, 116#8, 104#8, 105#8, 110#8, 103#8, 63#8, 128#8, 0#8, 0#8, 0#8, 0#8, 0#8, 0#8, 0#8, 0#8, 0#8, 0#8, 0#8, 0#8, 0#8, 0#8, 0#8, 0#8, 0#8, 0#8, 0#8, 0#8, 0#8, 0#8, 0#8, 0#8, 0#8, 0#8, 0#8, 0#8, 0#8, 0#8, 0#8, 0#8, 0#8, 2#8, 224#8]
def awC0 : By := [22#8, 57#8, 58#8, 57#8, 92#8, 92#8, 92#8, 92#8, 92#8, 92#8, 92#8, 92#8, 92#8, 92#8, 92#8, 92#8, 92#8, 92#8, 92#8, 92#8, 92#8, 92#8, 92#8, 92#8, 92#8, 92#8, 92#8, 92#8, 92#8, 92#8, 92#8, 92#8, 92#8, 92#8, 92#8, 92#8, 92#8, 92#8, 92#8, 92#8, 92#8, 92#8, 92#8, 92#8, 92#8, 92#8, 92#8, 92#8, 92#8, 92#8, 92#8, 92#8, 92#8, 92#8, 92#8, 92#8, 92#8, 92#8, 92#8, 92#8, 92#8, 92#8, 92#8, 92#8]
def awC1 : By := [162#8, 228#8, 133#8, 134#8, 61#8, 39#8, 249#8, 216#8, 100#8, 172#8, 141#8, 128#8, 36#8, 50#8, 161#8, 237#8, 71#8, 125#8, 140#8, 76#8, 111#8, 52#8, 157#8, 22#8, 212#8, 231#8, 233#8, 23#8, 198#8, 41#8, 202#8, 215#8, 128#8, 0#8, 0#8, 0#8, 0#8, 0#8, 0#8, 0#8, 0#8, 0#8, 0#8, 0#8, 0#8, 0#8, 0#8, 0#8, 0#8, 0#8, 0#8, 0#8, 0#8, 0#8, 0#8, 0#8, 0#8, 0#8, 0#8, 0#8, 0#8, 0#8, 3#8, 0#8]
def awD1 : By := [162#8, 228#8, 133#8, 134#8, 61#8, 39#8, 249#8, 216#8, 100#8, 172#8, 141#8, 128#8, 36#8, 50#8, 161#8, 237#8, 71#8, 125#8, 140#8, 76#8, 111#8, 52#8, 157#8, 22#8, 212#8, 231#8, 233#8, 23#8, 198#8, 41#8, 202#8, 215#8]
def awD2 : By := [91#8, 220#8, 193#8, 70#8, 191#8, 96#8, 117#8, 78#8, 106#8, 4#8, 36#8, 38#8, 8#8, 149#8, 117#8, 199#8, 90#8, 0#8, 63#8, 8#8, 157#8, 39#8, 57#8, 131#8, 157#8, 236#8, 88#8, 185#8, 100#8, 236#8, 56#8, 67#8]
def awS1 : List W32 := [0x655da7fa#32, 0xcc434b37#32, 0x5a1cd5cb#32, 0x0692ee0e#32, 0xa47a23d3#32, 0x4c3af449#32, 0xdba21ae2#32, 0x78c7500c#32]
def awS2 : List W32 := [0xa2e48586#32, 0x3d27f9d8#32, 0x64ac8d80#32, 0x2432a1ed#32, 0x477d8c4c#32, 0x6f349d16#32, 0xd4e7e917#32, 0xc629cad7#32]
def awT1 : List W32 := [0x0eafe3d5#32, 0x13412e6c#32, 0x6a6a2feb#32, 0x2d375acc#32, 0x51a4fd47#32, 0x6db095e8#32, 0x23bfa18a#32, 0x52f141d5#32]
def awT2 : List W32 := [0x5bdcc146#32, 0xbf60754e#32, 0x6a042426#32, 0x089575c7#32, 0x5a003f08#32, 0x9d273983#32, 0x9dec58b9#32, 0x64ec3843#32]
theorem aw_kb : keyB awKey = awKb := by kernel_rfl
theorem aw_m1 : xorB awKb 0x36#8 ++ awMsg = awM1 := by kernel_rfl
theorem aw_p1 : awM1 ++ padL awM1.length = awB0 ++ awB1 := by kernel_rfl
theorem aw_s1 : stepL startL awB0 = awS1 := by kernel_rfl
theorem aw_s2 : stepL awS1 awB1 = awS2 := by kernel_rfl
theorem aw_d1 : digL awS2 = awD1 := by kernel_rfl
theorem aw_m2 : xorB awKb 0x5c#8 ++ awD1 = awM2 := by kernel_rfl
theorem aw_p2 : awM2 ++ padL awM2.length = awC0 ++ awC1 := by kernel_rfl
theorem aw_t1 : stepL startL awC0 = awT1 := by kernel_rfl
theorem aw_t2 : stepL awT1 awC1 = awT2 := by kernel_rfl
theorem aw_d2 : digL awT2 = awD2 := by kernel_rfl
theorem aw_text : textL awD2 = [53, 98, 100, 99, 99, 49, 52, 54, 98, 102, 54, 48, 55, 53, 52, 101, 54, 97, 48, 52, 50, 52, 50, 54, 48, 56, 57, 53, 55, 53, 99, 55, 53, 97, 48, 48, 51, 102, 48, 56, 57, 100, 50, 55, 51, 57, 56, 51, 57, 100, 101, 99, 53, 56, 98, 57, 54, 52, 101, 99, 51, 56, 52, 51] := by kernel_rfl
theorem two_blocks (B C : By) (hb : B.length = 64) (hc : C.length = 64) : stL (B ++ C) = stepL (stepL startL B) C := by
  have h0 : blk (B ++ C) 0 = B := by
    unfold blk
    rw [show 64 * 0 = 0 from rfl, List.drop_zero, ← hb, List.take_left]
  have h1 : blk (B ++ C) 1 = C := by
    unfold blk
    rw [show 64 * 1 = B.length by omega, List.drop_left, ← hc, List.take_length]
  unfold stL nb
  rw [List.length_append, hb, hc]
  show stepL (stepL startL (blk (B ++ C) 0)) (blk (B ++ C) 1) = _
  rw [h0, h1]
theorem aw_sum1 : sumL awM1 = awD1 := by
  unfold sumL
  rw [aw_p1, two_blocks awB0 awB1 rfl rfl, aw_s1, aw_s2, aw_d1]
theorem aw_sum2 : sumL awM2 = awD2 := by
  unfold sumL
  rw [aw_p2, two_blocks awC0 awC1 rfl rfl, aw_t1, aw_t2, aw_d2]
theorem aw_mac : macL awKey awMsg = awD2 := by
  unfold macL
  rw [aw_kb, aw_m1, aw_sum1, aw_m2, aw_sum2]
theorem RdN.new3 (W : World) (p q r : By) (v u x : Value) (e : TypeId) (m : Nat × Nat) (g : Nat) (hg : g = W.heap.size) (h : EqN W p v) (k : EqN W q u) (l : EqN W r x) : RdN (W.alloc (.cells #[v, u, x] e m)) (some ⟨g, 0, none⟩) [p, q, r] := by
  subst hg
  refine RdR.new W [p, q, r] _ e m (by simp) fun j hj => ?_
  match j, hj with
  | 0, _ => exact ⟨_, rfl, h.alloc _⟩
  | 1, _ => exact ⟨_, rfl, k.alloc _⟩
  | 2, _ => exact ⟨_, rfl, l.alloc _⟩
set_option maxRecDepth 100000 in
set_option maxHeartbeats 4000000 in
theorem awake4_any (w : World) : Calls Try.prog 44 #[] w fun e w' => e = .returned (.bool true) ∧ Below w.heap.size w w' := by
  have k1' := Lib.run_convert_bytes_const (P := Try.prog) w 35 5 #[.int .u8 74, .int .u8 101, .int .u8 102, .int .u8 101] 4 4 Try.underlying35 Try.underlying5
  have k2' := Joins.run_convert_bytes_const_at (P := Try.prog) (w.alloc (.cells #[.int .u8 74, .int .u8 101, .int .u8 102, .int .u8 101] 5 (4, 5))) 35 5 #[.int .u8 119, .int .u8 104, .int .u8 97, .int .u8 116, .int .u8 32, .int .u8 100, .int .u8 111, .int .u8 32, .int .u8 121, .int .u8 97, .int .u8 32, .int .u8 119, .int .u8 97, .int .u8 110, .int .u8 116, .int .u8 32] 16 16 (w.heap.size + 1) (by simp) Try.underlying35 Try.underlying5
  have k3' := Joins.run_convert_bytes_const_at (P := Try.prog) ((w.alloc (.cells #[.int .u8 74, .int .u8 101, .int .u8 102, .int .u8 101] 5 (4, 5))).alloc (.cells #[.int .u8 119, .int .u8 104, .int .u8 97, .int .u8 116, .int .u8 32, .int .u8 100, .int .u8 111, .int .u8 32, .int .u8 121, .int .u8 97, .int .u8 32, .int .u8 119, .int .u8 97, .int .u8 110, .int .u8 116, .int .u8 32] 5 (16, 17))) 35 5 #[.int .u8 102, .int .u8 111, .int .u8 114, .int .u8 32, .int .u8 110, .int .u8 111, .int .u8 116, .int .u8 104, .int .u8 105, .int .u8 110, .int .u8 103, .int .u8 63] 12 12 (w.heap.size + 1 + 1) (by simp) Try.underlying35 Try.underlying5
  go_enter Try.func44, Try.ntmps44
  go_wp2_with fail
  have e1 : EqN (w.alloc (.cells #[.int .u8 74, .int .u8 101, .int .u8 102, .int .u8 101] 5 (4, 5))) awKey (.slice (some ⟨w.heap.size, 0, none⟩) 4 4) := EqN.new w _ _ _ _ _ rfl 4 4 rfl (by omega) (by decide) rfl
  have e2 : EqN ((w.alloc (.cells #[.int .u8 74, .int .u8 101, .int .u8 102, .int .u8 101] 5 (4, 5))).alloc (.cells #[.int .u8 119, .int .u8 104, .int .u8 97, .int .u8 116, .int .u8 32, .int .u8 100, .int .u8 111, .int .u8 32, .int .u8 121, .int .u8 97, .int .u8 32, .int .u8 119, .int .u8 97, .int .u8 110, .int .u8 116, .int .u8 32] 5 (16, 17))) [119#8, 104#8, 97#8, 116#8, 32#8, 100#8, 111#8, 32#8, 121#8, 97#8, 32#8, 119#8, 97#8, 110#8, 116#8, 32#8] (.slice (some ⟨w.heap.size + 1, 0, none⟩) 16 16) := EqN.new _ _ _ _ _ _ (by simp) 16 16 rfl (by omega) (by decide) rfl
  have e3 : EqN (((w.alloc (.cells #[.int .u8 74, .int .u8 101, .int .u8 102, .int .u8 101] 5 (4, 5))).alloc (.cells #[.int .u8 119, .int .u8 104, .int .u8 97, .int .u8 116, .int .u8 32, .int .u8 100, .int .u8 111, .int .u8 32, .int .u8 121, .int .u8 97, .int .u8 32, .int .u8 119, .int .u8 97, .int .u8 110, .int .u8 116, .int .u8 32] 5 (16, 17))).alloc (.cells #[.int .u8 102, .int .u8 111, .int .u8 114, .int .u8 32, .int .u8 110, .int .u8 111, .int .u8 116, .int .u8 104, .int .u8 105, .int .u8 110, .int .u8 103, .int .u8 63] 5 (12, 13))) [102#8, 111#8, 114#8, 32#8, 110#8, 111#8, 116#8, 104#8, 105#8, 110#8, 103#8, 63#8] (.slice (some ⟨w.heap.size + 1 + 1, 0, none⟩) 12 12) := EqN.new _ _ _ _ _ _ (by simp) 12 12 rfl (by omega) (by decide) rfl
  have hr := RdN.new2 _ _ _ _ _ 35 (0, 0) (w.heap.size + 1 + 1 + 1) (by simp) (e2.alloc (.cells #[.int .u8 102, .int .u8 111, .int .u8 114, .int .u8 32, .int .u8 110, .int .u8 111, .int .u8 116, .int .u8 104, .int .u8 105, .int .u8 110, .int .u8 103, .int .u8 63] 5 (12, 13))) e3
  have hk := ((e1.alloc (.cells #[.int .u8 119, .int .u8 104, .int .u8 97, .int .u8 116, .int .u8 32, .int .u8 100, .int .u8 111, .int .u8 32, .int .u8 121, .int .u8 97, .int .u8 32, .int .u8 119, .int .u8 97, .int .u8 110, .int .u8 116, .int .u8 32] 5 (16, 17))).alloc (.cells #[.int .u8 102, .int .u8 111, .int .u8 114, .int .u8 32, .int .u8 110, .int .u8 111, .int .u8 116, .int .u8 104, .int .u8 105, .int .u8 110, .int .u8 103, .int .u8 63] 5 (12, 13))).alloc (.cells #[.slice (some ⟨w.heap.size + 1, 0, none⟩) 16 16, .slice (some ⟨w.heap.size + 1 + 1, 0, none⟩) 12 12] 35)
  have SM := Lib.hid (msum_any awKey _ [[119#8, 104#8, 97#8, 116#8, 32#8, 100#8, 111#8, 32#8, 121#8, 97#8, 32#8, 119#8, 97#8, 110#8, 116#8, 32#8], [102#8, 111#8, 114#8, 32#8, 110#8, 111#8, 116#8, 104#8, 105#8, 110#8, 103#8, 63#8]] ⟨w.heap.size + 1 + 1 + 1, 0, none⟩ 2 _ hk (by decide) hr (by decide) (by decide) (by decide))
  rw [show [[119#8, 104#8, 97#8, 116#8, 32#8, 100#8, 111#8, 32#8, 121#8, 97#8, 32#8, 119#8, 97#8, 110#8, 116#8, 32#8], [102#8, 111#8, 114#8, 32#8, 110#8, 111#8, 116#8, 104#8, 105#8, 110#8, 103#8, 63#8]].flatten = awMsg from rfl, aw_mac] at SM
  have b0 : Below w.heap.size w ((((w.alloc (.cells #[.int .u8 74, .int .u8 101, .int .u8 102, .int .u8 101] 5 (4, 5))).alloc (.cells #[.int .u8 119, .int .u8 104, .int .u8 97, .int .u8 116, .int .u8 32, .int .u8 100, .int .u8 111, .int .u8 32, .int .u8 121, .int .u8 97, .int .u8 32, .int .u8 119, .int .u8 97, .int .u8 110, .int .u8 116, .int .u8 32] 5 (16, 17))).alloc (.cells #[.int .u8 102, .int .u8 111, .int .u8 114, .int .u8 32, .int .u8 110, .int .u8 111, .int .u8 116, .int .u8 104, .int .u8 105, .int .u8 110, .int .u8 103, .int .u8 63] 5 (12, 13))).alloc (.cells #[.slice (some ⟨w.heap.size + 1, 0, none⟩) 16 16, .slice (some ⟨w.heap.size + 1 + 1, 0, none⟩) 12 12] 35)) := ((((Below.refl _ _).alloc (Nat.le_refl _) _).alloc (by simp) _).alloc (by simp; omega) _).alloc (by simp; omega) _
  obtain ⟨W, hW⟩ : ∃ W, ((((w.alloc (.cells #[.int .u8 74, .int .u8 101, .int .u8 102, .int .u8 101] 5 (4, 5))).alloc (.cells #[.int .u8 119, .int .u8 104, .int .u8 97, .int .u8 116, .int .u8 32, .int .u8 100, .int .u8 111, .int .u8 32, .int .u8 121, .int .u8 97, .int .u8 32, .int .u8 119, .int .u8 97, .int .u8 110, .int .u8 116, .int .u8 32] 5 (16, 17))).alloc (.cells #[.int .u8 102, .int .u8 111, .int .u8 114, .int .u8 32, .int .u8 110, .int .u8 111, .int .u8 116, .int .u8 104, .int .u8 105, .int .u8 110, .int .u8 103, .int .u8 63] 5 (12, 13))).alloc (.cells #[.slice (some ⟨w.heap.size + 1, 0, none⟩) 16 16, .slice (some ⟨w.heap.size + 1 + 1, 0, none⟩) 12 12] 35)) = W := ⟨_, rfl⟩
  rw [hW] at SM b0 ⊢
  replace b0 := Lib.hid b0
  clear hW hr hk e1 e2 e3 k1' k2' k3'
  refine SM.out.mono ?_
  rintro e w2 ⟨rfl, hb2⟩
  have TX := Lib.hid (rtext_any awD2 rfl w2)
  rw [aw_text] at TX
  have B2 := Lib.hid (b0.out.trans (hb2.mono b0.out.size))
  clear SM hb2 b0
  obtain ⟨D, hD⟩ : ∃ D, awD2 = D := ⟨_, rfl⟩
  rw [hD] at TX ⊢
  clear hD
  go_wp2_with fail
  refine TX.out.mono ?_
  rintro e w3 ⟨rfl, hb3⟩
  have B3 := Lib.hid (B2.out.trans (hb3.mono B2.out.size))
  clear TX hb3 B2
  go_wp2
  go_ret
  exact ⟨rfl, B3.out⟩
end Go.Proofs.Ytjaakhjfpigdfaa
/-! Same; MacSame. -/
namespace Go.Proofs.Ytjaakhjfpigdfaa
open Go.RowKit
set_option linter.unusedVariables false
set_option linter.unusedSimpArgs false
/-- All differences so far. -/
def accD (x y : By) : Nat → BitVec 8
  | 0 => 0
  | i + 1 => accD x y i ||| (x.getD i 0 ^^^ y.getD i 0)
theorem or_zero8 (a b : BitVec 8) : a ||| b = 0 ↔ a = 0 ∧ b = 0 := by
  constructor
  · intro h
    have key : ∀ j, a.getLsbD j = false ∧ b.getLsbD j = false := fun j => by
      have := congrArg (fun z => z.getLsbD j) h
      simpa [BitVec.getLsbD_or] using this
    exact ⟨BitVec.eq_of_getLsbD_eq fun j hj => by rw [(key j).1]; simp, BitVec.eq_of_getLsbD_eq fun j hj => by rw [(key j).2]; simp⟩
  · rintro ⟨rfl, rfl⟩; rfl
theorem xor_zero8 (a b : BitVec 8) : a ^^^ b = 0 ↔ a = b := by
  constructor
  · intro h
    have : a ^^^ b ^^^ b = 0 ^^^ b := by rw [h]
    rw [BitVec.xor_assoc, BitVec.xor_self, BitVec.xor_zero] at this
    simpa using this
  · rintro rfl; exact BitVec.xor_self
theorem accD_zero (x y : By) : ∀ n, accD x y n = 0 ↔ ∀ j, j < n → x.getD j 0 = y.getD j 0
  | 0 => by simp [accD]
  | n + 1 => by
    rw [accD, or_zero8, accD_zero x y n, xor_zero8]
    constructor
    · rintro ⟨h1, h2⟩ j hj
      by_cases e : j = n
      · rw [e]; exact h2
      · exact h1 j (by omega)
    · intro h
      exact ⟨fun j hj => h j (by omega), h n (by omega)⟩
theorem accD_eq (x y : By) (hx : x.length = 32) (hy : y.length = 32) : accD x y 32 = 0 ↔ x = y := by
  rw [accD_zero]
  constructor
  · intro h
    apply List.ext_getElem (by omega)
    intro j h1 h2
    have := h j (by omega)
    rw [List.getD_eq_getElem?_getD, List.getD_eq_getElem?_getD, List.getElem?_eq_getElem h1, List.getElem?_eq_getElem h2] at this
    exact this
  · rintro rfl j _; rfl
theorem or8 (a b : BitVec 8) : bits .or .u8 (a.toNat : Int) (b.toNat : Int) = ((a ||| b).toNat : Int) := by rw [u8_or_nat _ _ a.isLt b.isLt]; simp
set_option maxRecDepth 100000 in
theorem idx25 (g i : Nat) (h : i < 32) (w : World) : (do pure (Next.value (← Instr.indexAt 25 (.pointer (some ⟨g, 0, none⟩)) (.int .i64 (i : Int)))) : Sem Next).run Try.prog w = .ok (.value (.pointer (some ⟨g, i, none⟩))) w := by
  have h2 : (i : Int) < 32 := by omega
  simp [go_sem, h2]
def pdSM (a p q r s : BitVec 8) (g2 g3 i : Nat) : Nat → Value → World → Prop
  | 0 => fun v w => v = .int .u8 (a.toNat : Int)
  | 1 => fun v w => v = .int .i64 (i : Int)
  | 2 => fun v w => v = .pointer (some ⟨g2, i, none⟩)
  | 3 => fun v w => v = .int .u8 (p.toNat : Int)
  | 4 => fun v w => v = .int .i64 (i : Int)
  | 5 => fun v w => v = .pointer (some ⟨g3, i, none⟩)
  | 6 => fun v w => v = .int .u8 (q.toNat : Int)
  | 7 => fun v w => v = .int .u8 (r.toNat : Int)
  | 8 => fun v w => v = .int .u8 (s.toNat : Int)
  | _ => fun _ _ => True
theorem pdSM_mono (a p q r s : BitVec 8) (g2 g3 i : Nat) : ∀ q0 v w w', pdSM a p q r s g2 g3 i q0 v w → Below w.heap.size w w' → pdSM a p q r s g2 g3 i q0 v w'
  | 0, _, _, _, h, _ => h
  | 1, _, _, _, h, _ => h
  | 2, _, _, _, h, _ => h
  | 3, _, _, _, h, _ => h
  | 4, _, _, _, h, _ => h
  | 5, _, _, _, h, _ => h
  | 6, _, _, _, h, _ => h
  | 7, _, _, _, h, _ => h
  | 8, _, _, _, h, _ => h
  | _ + 9, _, _, _, _, _ => trivial
set_option maxRecDepth 100000 in
set_option maxHeartbeats 4000000 in
theorem same_any (x y : By) (hx : x.length = 32) (hy : y.length = 32) (w : World) : Calls Try.prog 50 #[.agg (V8 x), .agg (V8 y)] w fun e w' => e = .returned (.bool (x == y)) ∧ Below w.heap.size w w' := by
  have z2 : ((w.alloc (.cells (V8 x) 25)).alloc (.cells (V8 y) 25)).heap[w.heap.size]? = some (.cells (V8 x) 25 (0, 0)) := heap_old _ trivial (heap_new _ _ _ rfl)
  have z3 : ((w.alloc (.cells (V8 x) 25)).alloc (.cells (V8 y) 25)).heap[w.heap.size + 1]? = some (.cells (V8 y) 25 (0, 0)) := heap_new _ _ _ (by simp)
  have b2 : Below w.heap.size w ((w.alloc (.cells (V8 x) 25)).alloc (.cells (V8 y) 25)) := ((Below.refl _ _).alloc (Nat.le_refl _) _).alloc (by simp) _
  obtain ⟨W2, hW2⟩ : ∃ W, (w.alloc (.cells (V8 x) 25)).alloc (.cells (V8 y) 25) = W := ⟨_, rfl⟩
  rw [hW2] at z2 z3 b2
  have HAE := Lib.hid (accD_eq x y hx hy)
  have HX := Lib.hid hx
  have HY := Lib.hid hy
  have HW2 := Lib.hid hW2
  have Z2 := Lib.hid z2
  have Z3 := Lib.hid z3
  have B2 := Lib.hid b2
  clear hW2 z2 z3 b2 hx hy
  go_enter Try.func50, Try.ntmps50
  go_upto_region 1 with (fail)
  rw [HW2.out]
  obtain ⟨g2, hg2⟩ : ∃ g, w.heap.size = g := ⟨_, rfl⟩
  obtain ⟨g3, hg3⟩ : ∃ g, g2 + 1 = g := ⟨_, rfl⟩
  rw [hg2] at Z2 Z3
  rw [hg3] at Z3
  rw [hg2, hg3]
  clear HW2 hg2 hg3
  go_wp2
  go_loopg [5, 7] 32 (fun gk v5 v7 wr => ∃ i : Nat, gk = 32 - i ∧ i ≤ 32 ∧ v7 = .int .i64 (i : Int) ∧ v5 = .int .u8 ((accD x y i).toNat : Int) ∧ Below W2.heap.size W2 wr)
  case atStart => exact ⟨0, rfl, by omega, rfl, rfl, Below.refl _ _⟩
  case round =>
    obtain ⟨i, rfl, hi, rfl, rfl, hb⟩ := hrel
    by_cases hlt : i < 32
    · have q2 : wr.cell? ⟨g2, i, none⟩ = some (.int .u8 ((x.getD i 0).toNat : Int)) := by rw [Joins.cell_of_block (keepH hb Z2.out)]; exact V8_at _ i (by rw [HX.out]; exact hlt)
      have q3 : wr.cell? ⟨g3, i, none⟩ = some (.int .u8 ((y.getD i 0).toNat : Int)) := by rw [Joins.cell_of_block (keepH hb Z3.out)]; exact V8_at _ i (by rw [HY.out]; exact hlt)
      have hs : accD x y (i + 1) = accD x y i ||| (x.getD i 0 ^^^ y.getD i 0) := rfl
      obtain ⟨p, hp⟩ : ∃ p, x.getD i 0 = p := ⟨_, rfl⟩
      obtain ⟨q, hq⟩ : ∃ p, y.getD i 0 = p := ⟨_, rfl⟩
      obtain ⟨a, ha⟩ : ∃ p, accD x y i = p := ⟨_, rfl⟩
      obtain ⟨s, hs2⟩ : ∃ p, accD x y (i + 1) = p := ⟨_, rfl⟩
      rw [hp] at q2
      rw [hq] at q3
      rw [hp, hq, ha, hs2] at hs
      rw [ha]
      obtain ⟨r, hr⟩ : ∃ r, p ^^^ q = r := ⟨_, rfl⟩
      rw [hr] at hs
      have HXR := Lib.hid (show bits .xor .u8 (p.toNat : Int) (q.toNat : Int) = (r.toNat : Int) by rw [xor8, hr])
      have HOR := Lib.hid (show bits .or .u8 (a.toNat : Int) (r.toNat : Int) = (s.toNat : Int) by rw [or8, hs])
      have HS2 := Lib.hid hs2
      have Q2 := Lib.hid q2
      have Q3 := Lib.hid q3
      have HB := Lib.hid hb
      have hlI : (i : Int) < 32 := by omega
      clear q2 q3 hs hp hq ha hs2 hr hb
      go_upto_region 5 with (fail)
      refine wp_region_mono (w0 := _) 9 [some 10, some 11, some 12, some 13, some 14, some 15, some 16, some 17, some 18] (by kernel_rfl) (by kernel_rfl) (by kernel_rfl) (by kernel_rfl) (of_decide_eq_true (by kernel_rfl)) (by kernel_rfl) (pdSM a p q r s g2 g3 i) ?_ ?_ ?_
      · exact pdSM_mono a p q r s g2 g3 i
      · intro i hi o w1 b ho hbel hv hstood hsize K hK
        have hc : i = 0 ∨ i = 1 ∨ i = 2 ∨ i = 3 ∨ i = 4 ∨ i = 5 ∨ i = 6 ∨ i = 7 ∨ i = 8 := by omega
        rcases hc with rfl | rfl | rfl | rfl | rfl | rfl | rfl | rfl | rfl
        · obtain rfl : (⟨some 10, .move (Operand.tmp 5), _, _, _, _⟩ : Oper) = o := Option.some.inj ho
          refine ask_plain rfl ?_
          have e : b.eval (.tmp 5) = .int .u8 (a.toNat : Int) := (hstood 5 (by kernel_rfl)).trans rfl
          exact wp_val _ rfl (hK _ _ e (Below.refl _ _))
        · obtain rfl : (⟨some 11, .move (Operand.tmp 6), _, _, _, _⟩ : Oper) = o := Option.some.inj ho
          refine ask_plain rfl ?_
          have e : b.eval (.tmp 6) = .int .i64 (i : Int) := (hstood 6 (by kernel_rfl)).trans rfl
          exact wp_val _ rfl (hK _ _ e (Below.refl _ _))
        · obtain rfl : (⟨some 12, .indexAddr 25 (Operand.tmp 2) (Operand.tmp 11), _, _, _, _⟩ : Oper) = o := Option.some.inj ho
          refine ask_plain rfl ?_
          have e1 : b.eval (.tmp 2) = .pointer (some ⟨g2, 0, none⟩) := (hstood 2 (by kernel_rfl)).trans rfl
          have e2 : b.eval (.tmp 11) = .int .i64 (i : Int) := hv 1 11 (by kernel_rfl) (by kernel_rfl) (of_decide_eq_true (by kernel_rfl))
          exact wp_val (.pointer (some ⟨g2, i, none⟩)) (by simp only [execOp, e1, e2]; exact idx25 g2 i hlt w1) (hK _ _ rfl (Below.refl _ _))
        · obtain rfl : (⟨some 13, .load 5 (Operand.tmp 12), _, _, _, _⟩ : Oper) = o := Option.some.inj ho
          refine ask_plain rfl ?_
          have e : b.eval (.tmp 12) = .pointer (some ⟨g2, i, none⟩) := hv 2 12 (by kernel_rfl) (by kernel_rfl) (of_decide_eq_true (by kernel_rfl))
          have hq := (hbel.cell (World.block_lt_of_cell? _ _ Q2.out)).trans Q2.out
          exact wp_val (.int .u8 (p.toNat : Int)) (by simp only [execOp, e]; exact load5 _ _ _ hq) (hK _ _ rfl (Below.refl _ _))
        · obtain rfl : (⟨some 14, .move (Operand.tmp 6), _, _, _, _⟩ : Oper) = o := Option.some.inj ho
          refine ask_plain rfl ?_
          have e : b.eval (.tmp 6) = .int .i64 (i : Int) := (hstood 6 (by kernel_rfl)).trans rfl
          exact wp_val _ rfl (hK _ _ e (Below.refl _ _))
        · obtain rfl : (⟨some 15, .indexAddr 25 (Operand.tmp 3) (Operand.tmp 14), _, _, _, _⟩ : Oper) = o := Option.some.inj ho
          refine ask_plain rfl ?_
          have e1 : b.eval (.tmp 3) = .pointer (some ⟨g3, 0, none⟩) := (hstood 3 (by kernel_rfl)).trans rfl
          have e2 : b.eval (.tmp 14) = .int .i64 (i : Int) := hv 4 14 (by kernel_rfl) (by kernel_rfl) (of_decide_eq_true (by kernel_rfl))
          exact wp_val (.pointer (some ⟨g3, i, none⟩)) (by simp only [execOp, e1, e2]; exact idx25 g3 i hlt w1) (hK _ _ rfl (Below.refl _ _))
        · obtain rfl : (⟨some 16, .load 5 (Operand.tmp 15), _, _, _, _⟩ : Oper) = o := Option.some.inj ho
          refine ask_plain rfl ?_
          have e : b.eval (.tmp 15) = .pointer (some ⟨g3, i, none⟩) := hv 5 15 (by kernel_rfl) (by kernel_rfl) (of_decide_eq_true (by kernel_rfl))
          have hq := (hbel.cell (World.block_lt_of_cell? _ _ Q3.out)).trans Q3.out
          exact wp_val (.int .u8 (q.toNat : Int)) (by simp only [execOp, e]; exact load5 _ _ _ hq) (hK _ _ rfl (Below.refl _ _))
        · obtain rfl : (⟨some 17, .binOp BinOp.xor 5 (Operand.tmp 13) (Operand.tmp 16) 5, _, _, _, _⟩ : Oper) = o := Option.some.inj ho
          refine ask_plain rfl ?_
          have e0 : b.eval (.tmp 13) = .int .u8 (p.toNat : Int) := hv 3 13 (by kernel_rfl) (by kernel_rfl) (of_decide_eq_true (by kernel_rfl))
          have e1 : b.eval (.tmp 16) = .int .u8 (q.toNat : Int) := hv 6 16 (by kernel_rfl) (by kernel_rfl) (of_decide_eq_true (by kernel_rfl))
          exact wp_val (.int .u8 (r.toNat : Int)) (by simp only [execOp, e0, e1]; simp [go_sem, HXR.out]) (hK _ _ rfl (Below.refl _ _))
        · obtain rfl : (⟨some 18, .binOp BinOp.or 5 (Operand.tmp 10) (Operand.tmp 17) 5, _, _, _, _⟩ : Oper) = o := Option.some.inj ho
          refine ask_plain rfl ?_
          have e0 : b.eval (.tmp 10) = .int .u8 (a.toNat : Int) := hv 0 10 (by kernel_rfl) (by kernel_rfl) (of_decide_eq_true (by kernel_rfl))
          have e1 : b.eval (.tmp 17) = .int .u8 (r.toNat : Int) := hv 7 17 (by kernel_rfl) (by kernel_rfl) (of_decide_eq_true (by kernel_rfl))
          exact wp_val (.int .u8 (s.toNat : Int)) (by simp only [execOp, e0, e1]; simp [go_sem, HOR.out]) (hK _ _ rfl (Below.refl _ _))
      · intro vs w3 hp hb3
        have v0 : vs 0 = .int .u8 (a.toNat : Int) := hp 0 (by decide)
        have v1 : vs 1 = .int .i64 (i : Int) := hp 1 (by decide)
        have v2 : vs 2 = .pointer (some ⟨g2, i, none⟩) := hp 2 (by decide)
        have v3 : vs 3 = .int .u8 (p.toNat : Int) := hp 3 (by decide)
        have v4 : vs 4 = .int .i64 (i : Int) := hp 4 (by decide)
        have v5 : vs 5 = .pointer (some ⟨g3, i, none⟩) := hp 5 (by decide)
        have v6 : vs 6 = .int .u8 (q.toNat : Int) := hp 6 (by decide)
        have v7 : vs 7 = .int .u8 (r.toNat : Int) := hp 7 (by decide)
        have v8 : vs 8 = .int .u8 (s.toNat : Int) := hp 8 (by decide)
        have HB3 := Lib.hid (HB.out.trans (hb3.mono HB.out.size))
        change wpList _ _ _ [_] _ _
        simp only [putD, Act.put, List.setIfInBounds_toArray, List.set_cons_zero, List.set_cons_succ, v0, v1, v2, v3, v4, v5, v6, v7, v8]
        clear v0 v1 v2 v3 v4 v5 v6 v7 v8 hp hb3 HB
        go_wp2
        go_roundg (32 - (i + 1))
        case measure => omega
        case rel => exact ⟨i + 1, rfl, by omega, by go_num, by rw [HS2.out], HB3.out⟩
    · obtain rfl : i = 32 := by omega
      have HB := Lib.hid (B2.out.trans (hb.mono B2.out.size))
      have hae := HAE.out
      obtain ⟨a, ha⟩ : ∃ p, accD x y 32 = p := ⟨_, rfl⟩
      rw [ha] at hae
      rw [ha]
      have hr : (x == y) = decide (a = 0) := by
        by_cases e : x = y
        · rw [decide_eq_true (hae.2 e), e]; simp
        · rw [decide_eq_false (fun h => e (hae.1 h))]; simpa using e
      have hd2 : decide (a = 0#8) = decide ((a.toNat : Int) = 0) := by
        by_cases e : a = 0#8
        · subst e; rfl
        · have h2 : ¬ (a.toNat : Int) = 0 := fun h => e (BitVec.eq_of_toNat_eq (by simpa using h))
          rw [decide_eq_false e, decide_eq_false h2]
      have HRR := Lib.hid (show (x == y) = decide ((a.toNat : Int) = 0) by rw [hr, ← hd2]; rfl)
      clear hr hd2 hae ha hb
      by_cases hz : (a.toNat : Int) = 0
      · have HT := Lib.hid (show (x == y) = true by rw [HRR.out]; simpa using hz)
        obtain rfl : a = 0#8 := BitVec.eq_of_toNat_eq (by simpa using hz)
        clear hz
        go_wp2
        go_ret
        exact ⟨by rw [HT.out]; rfl, HB.out⟩
      · have HT := Lib.hid (show (x == y) = false by rw [HRR.out]; simpa using hz)
        have hd : ((a.toNat : Int) == 0) = false := by simpa using hz
        have hd2 : decide ((a.toNat : Int) = 0) = false := by simpa using hz
        go_wp2
        go_ret
        exact ⟨by rw [HT.out]; try simp [hd, hd2, hz], HB.out⟩
theorem same_self (x : By) (hx : x.length = 32) (w : World) : Calls Try.prog 50 #[.agg (V8 x), .agg (V8 x)] w fun e w' => e = .returned (.bool true) ∧ Below w.heap.size w w' := by
  have h := same_any x x hx hx w
  rw [show (x == x) = true by simp] at h
  exact h
def pdSL (X Y : By) : Nat → Value → World → Prop
  | 0 => fun v w => v = .agg (V8 X)
  | 1 => fun v w => v = .agg (V8 Y)
  | 2 => fun v w => v = .bool (X == Y)
  | 3 => fun v w => v = .agg (V8 X)
  | 4 => fun v w => v = .agg (V8 Y)
  | 5 => fun v w => v = .bool (X == Y)
  | 6 => fun v w => v = .bool true
  | 7 => fun v w => v = .bool true
  | 8 => fun v w => v = .agg (V8 X)
  | 9 => fun v w => v = .agg (V8 X)
  | 10 => fun v w => v = .bool true
  | 11 => fun v w => v = .bool true
  | 12 => fun v w => v = .bool true
  | 13 => fun v w => v = .bool true
  | 14 => fun v w => v = .bool true
  | _ => fun _ _ => True
theorem pdSL_mono (X Y : By) : ∀ q0 v w w', pdSL X Y q0 v w → Below w.heap.size w w' → pdSL X Y q0 v w'
  | 0, _, _, _, h, _ => h
  | 1, _, _, _, h, _ => h
  | 2, _, _, _, h, _ => h
  | 3, _, _, _, h, _ => h
  | 4, _, _, _, h, _ => h
  | 5, _, _, _, h, _ => h
  | 6, _, _, _, h, _ => h
  | 7, _, _, _, h, _ => h
  | 8, _, _, _, h, _ => h
  | 9, _, _, _, h, _ => h
  | 10, _, _, _, h, _ => h
  | 11, _, _, _, h, _ => h
  | 12, _, _, _, h, _ => h
  | 13, _, _, _, h, _ => h
  | 14, _, _, _, h, _ => h
  | _ + 15, _, _, _, _, _ => trivial
set_option maxRecDepth 100000 in
set_option maxHeartbeats 4000000 in
theorem macSame_true (X Y : By) (w : World) (hX : X.length = 32) (hY : Y.length = 32) : Calls Try.prog 12 #[.agg (V8 X), .agg (V8 Y)] w fun e w' => e = .returned (.bool true) ∧ Below w.heap.size w w' := by
  have z2 : ((w.alloc (.cells (V8 X) 25)).alloc (.cells (V8 Y) 25)).heap[w.heap.size]? = some (.cells (V8 X) 25 (0, 0)) := heap_old _ trivial (heap_new _ _ _ rfl)
  have z3 : ((w.alloc (.cells (V8 X) 25)).alloc (.cells (V8 Y) 25)).heap[w.heap.size + 1]? = some (.cells (V8 Y) 25 (0, 0)) := heap_new _ _ _ (by simp)
  have b2 : Below w.heap.size w ((w.alloc (.cells (V8 X) 25)).alloc (.cells (V8 Y) 25)) := ((Below.refl _ _).alloc (Nat.le_refl _) _).alloc (by simp) _
  obtain ⟨W2, hW2⟩ : ∃ W, (w.alloc (.cells (V8 X) 25)).alloc (.cells (V8 Y) 25) = W := ⟨_, rfl⟩
  rw [hW2] at z2 z3 b2
  have HX := Lib.hid hX
  have HY := Lib.hid hY
  have HSX := Lib.hid (show (Try.prog.info? 25).map (·.size) = some (V8 X).size by rw [V8_size, hX]; kernel_rfl)
  have HSY := Lib.hid (show (Try.prog.info? 25).map (·.size) = some (V8 Y).size by rw [V8_size, hY]; kernel_rfl)
  have HEQ := Lib.hid (fun w => eq_dig 25 Try.underlying25 X Y hX hY w)
  have HW2 := Lib.hid hW2
  have Q2 := Lib.hid z2
  have Q3 := Lib.hid z3
  have B2 := Lib.hid b2
  clear hW2 z2 z3 b2 hX hY
  go_enter Try.func12, Try.ntmps12
  go_upto_region 1 with (fail)
  rw [HW2.out]
  obtain ⟨g2, hg2⟩ : ∃ g, w.heap.size = g := ⟨_, rfl⟩
  obtain ⟨g3, hg3⟩ : ∃ g, g2 + 1 = g := ⟨_, rfl⟩
  rw [hg2] at Q2 Q3
  rw [hg3] at Q3
  rw [hg2, hg3]
  clear HW2 hg2 hg3
  refine wp_region_mono (w0 := _) 15 [some 5, some 6, some 7, some 8, some 9, some 10, some 11, some 12, some 13, some 14, some 15, some 16, some 17, some 18, some 19] (by kernel_rfl) (by kernel_rfl) (by kernel_rfl) (by kernel_rfl) (of_decide_eq_true (by kernel_rfl)) (by kernel_rfl) (pdSL X Y) ?_ ?_ ?_
  · exact pdSL_mono X Y
  · intro i hi o w1 b ho hbel hv hstood hsize K hK
    have hc : i = 0 ∨ i = 1 ∨ i = 2 ∨ i = 3 ∨ i = 4 ∨ i = 5 ∨ i = 6 ∨ i = 7 ∨ i = 8 ∨ i = 9 ∨ i = 10 ∨ i = 11 ∨ i = 12 ∨ i = 13 ∨ i = 14 := by omega
    rcases hc with rfl | rfl | rfl | rfl | rfl | rfl | rfl | rfl | rfl | rfl | rfl | rfl | rfl | rfl | rfl
    · obtain rfl : (⟨some 5, .load 25 (Operand.tmp 2), _, _, _, _⟩ : Oper) = o := Option.some.inj ho
      refine ask_plain rfl ?_
      have e1 : b.eval (.tmp 2) = .pointer (some ⟨g2, 0, none⟩) := (hstood 2 (by kernel_rfl)).trans rfl
      exact wp_load_cells 25 (.tmp 2) rfl ⟨g2, 0, none⟩ e1 (V8 X) _ rfl (fun j v hj => by rw [add_zero_off, Joins.cell_of_block ((hbel.block _ (Array.getElem?_eq_some_iff.1 Q2.out).1).trans Q2.out)]; exact hj) Try.underlying25 HSX.out (hK _ _ rfl (Below.refl _ _))
    · obtain rfl : (⟨some 6, .load 25 (Operand.tmp 3), _, _, _, _⟩ : Oper) = o := Option.some.inj ho
      refine ask_plain rfl ?_
      have e1 : b.eval (.tmp 3) = .pointer (some ⟨g3, 0, none⟩) := (hstood 3 (by kernel_rfl)).trans rfl
      exact wp_load_cells 25 (.tmp 3) rfl ⟨g3, 0, none⟩ e1 (V8 Y) _ rfl (fun j v hj => by rw [add_zero_off, Joins.cell_of_block ((hbel.block _ (Array.getElem?_eq_some_iff.1 Q3.out).1).trans Q3.out)]; exact hj) Try.underlying25 HSY.out (hK _ _ rfl (Below.refl _ _))
    · obtain rfl : (⟨some 7, .call { callee := (Callee.value (Operand.func 50)), args := #[(Operand.tmp 5), (Operand.tmp 6)], argTypes := #[25, 25] }, _, _, _, _⟩ : Oper) = o := Option.some.inj ho
      refine ask_plain rfl ?_
      have e1 : b.eval (.tmp 5) = .agg (V8 X) := hv 0 5 (by kernel_rfl) (by kernel_rfl) (of_decide_eq_true (by kernel_rfl))
      have e2 : b.eval (.tmp 6) = .agg (V8 Y) := hv 1 6 (by kernel_rfl) (by kernel_rfl) (of_decide_eq_true (by kernel_rfl))
      refine wp_call_fn 50 _ #[25, 25] rfl Try.f50 _ Try.func50 (by kernel_rfl) rfl #[.agg (V8 X), .agg (V8 Y)] (by simp [e1, e2]; try rfl) ((same_any X Y HX.out HY.out w1).mono ?_)
      rintro e w2 ⟨rfl, hb2⟩
      exact ⟨_, rfl, hK _ _ rfl hb2⟩
    · obtain rfl : (⟨some 8, .load 25 (Operand.tmp 2), _, _, _, _⟩ : Oper) = o := Option.some.inj ho
      refine ask_plain rfl ?_
      have e1 : b.eval (.tmp 2) = .pointer (some ⟨g2, 0, none⟩) := (hstood 2 (by kernel_rfl)).trans rfl
      exact wp_load_cells 25 (.tmp 2) rfl ⟨g2, 0, none⟩ e1 (V8 X) _ rfl (fun j v hj => by rw [add_zero_off, Joins.cell_of_block ((hbel.block _ (Array.getElem?_eq_some_iff.1 Q2.out).1).trans Q2.out)]; exact hj) Try.underlying25 HSX.out (hK _ _ rfl (Below.refl _ _))
    · obtain rfl : (⟨some 9, .load 25 (Operand.tmp 3), _, _, _, _⟩ : Oper) = o := Option.some.inj ho
      refine ask_plain rfl ?_
      have e1 : b.eval (.tmp 3) = .pointer (some ⟨g3, 0, none⟩) := (hstood 3 (by kernel_rfl)).trans rfl
      exact wp_load_cells 25 (.tmp 3) rfl ⟨g3, 0, none⟩ e1 (V8 Y) _ rfl (fun j v hj => by rw [add_zero_off, Joins.cell_of_block ((hbel.block _ (Array.getElem?_eq_some_iff.1 Q3.out).1).trans Q3.out)]; exact hj) Try.underlying25 HSY.out (hK _ _ rfl (Below.refl _ _))
    · obtain rfl : (⟨some 10, .binOp BinOp.eql 25 (Operand.tmp 8) (Operand.tmp 9) 25, _, _, _, _⟩ : Oper) = o := Option.some.inj ho
      refine ask_plain rfl ?_
      have e0 : b.eval (.tmp 8) = .agg (V8 X) := hv 3 8 (by kernel_rfl) (by kernel_rfl) (of_decide_eq_true (by kernel_rfl))
      have e1 : b.eval (.tmp 9) = .agg (V8 Y) := hv 4 9 (by kernel_rfl) (by kernel_rfl) (of_decide_eq_true (by kernel_rfl))
      exact wp_val (.bool (X == Y)) (by simp only [execOp, e0, e1]; simp [go_sem, HEQ.out]) (hK _ _ rfl (Below.refl _ _))
    · obtain rfl : (⟨some 11, .binOp BinOp.eql 4 (Operand.tmp 7) (Operand.tmp 10) 4, _, _, _, _⟩ : Oper) = o := Option.some.inj ho
      refine ask_plain rfl ?_
      have e0 : b.eval (.tmp 7) = .bool (X == Y) := hv 2 7 (by kernel_rfl) (by kernel_rfl) (of_decide_eq_true (by kernel_rfl))
      have e1 : b.eval (.tmp 10) = .bool (X == Y) := hv 5 10 (by kernel_rfl) (by kernel_rfl) (of_decide_eq_true (by kernel_rfl))
      exact wp_val (.bool true) (by simp only [execOp, e0, e1]; simp [go_sem]) (hK _ _ rfl (Below.refl _ _))
    · obtain rfl : (⟨some 12, .move (Operand.tmp 11), _, _, _, _⟩ : Oper) = o := Option.some.inj ho
      refine ask_plain rfl ?_
      have e : b.eval (.tmp 11) = .bool true := hv 6 11 (by kernel_rfl) (by kernel_rfl) (of_decide_eq_true (by kernel_rfl))
      exact wp_val _ rfl (hK _ _ e (Below.refl _ _))
    · obtain rfl : (⟨some 13, .load 25 (Operand.tmp 2), _, _, _, _⟩ : Oper) = o := Option.some.inj ho
      have hgd := hv 7 12 (by kernel_rfl) (by kernel_rfl) (of_decide_eq_true (by kernel_rfl))
      refine ask_yes 7 12 true rfl (by kernel_rfl) (by rw [hsize]; exact (of_decide_eq_true (by kernel_rfl))) hgd ?_
      have e1 : b.eval (.tmp 2) = .pointer (some ⟨g2, 0, none⟩) := (hstood 2 (by kernel_rfl)).trans rfl
      exact wp_load_cells 25 (.tmp 2) rfl ⟨g2, 0, none⟩ e1 (V8 X) _ rfl (fun j v hj => by rw [add_zero_off, Joins.cell_of_block ((hbel.block _ (Array.getElem?_eq_some_iff.1 Q2.out).1).trans Q2.out)]; exact hj) Try.underlying25 HSX.out (hK _ _ rfl (Below.refl _ _))
    · obtain rfl : (⟨some 14, .load 25 (Operand.tmp 2), _, _, _, _⟩ : Oper) = o := Option.some.inj ho
      have hgd := hv 7 12 (by kernel_rfl) (by kernel_rfl) (of_decide_eq_true (by kernel_rfl))
      refine ask_yes 7 12 true rfl (by kernel_rfl) (by rw [hsize]; exact (of_decide_eq_true (by kernel_rfl))) hgd ?_
      have e1 : b.eval (.tmp 2) = .pointer (some ⟨g2, 0, none⟩) := (hstood 2 (by kernel_rfl)).trans rfl
      exact wp_load_cells 25 (.tmp 2) rfl ⟨g2, 0, none⟩ e1 (V8 X) _ rfl (fun j v hj => by rw [add_zero_off, Joins.cell_of_block ((hbel.block _ (Array.getElem?_eq_some_iff.1 Q2.out).1).trans Q2.out)]; exact hj) Try.underlying25 HSX.out (hK _ _ rfl (Below.refl _ _))
    · obtain rfl : (⟨some 15, .call { callee := (Callee.value (Operand.func 50)), args := #[(Operand.tmp 13), (Operand.tmp 14)], argTypes := #[25, 25] }, _, _, _, _⟩ : Oper) = o := Option.some.inj ho
      have hgd := hv 7 12 (by kernel_rfl) (by kernel_rfl) (of_decide_eq_true (by kernel_rfl))
      refine ask_yes 7 12 true rfl (by kernel_rfl) (by rw [hsize]; exact (of_decide_eq_true (by kernel_rfl))) hgd ?_
      have e1 : b.eval (.tmp 13) = .agg (V8 X) := hv 8 13 (by kernel_rfl) (by kernel_rfl) (of_decide_eq_true (by kernel_rfl))
      have e2 : b.eval (.tmp 14) = .agg (V8 X) := hv 9 14 (by kernel_rfl) (by kernel_rfl) (of_decide_eq_true (by kernel_rfl))
      refine wp_call_fn 50 _ #[25, 25] rfl Try.f50 _ Try.func50 (by kernel_rfl) rfl #[.agg (V8 X), .agg (V8 X)] (by simp [e1, e2]; try rfl) ((same_self X HX.out w1).mono ?_)
      rintro e w2 ⟨rfl, hb2⟩
      exact ⟨_, rfl, hK _ _ rfl hb2⟩
    · obtain rfl : (⟨some 16, .pick (Operand.tmp 12) (Operand.tmp 15) (Operand.const (Value.bool false)), _, _, _, _⟩ : Oper) = o := Option.some.inj ho
      refine ask_plain rfl ?_
      have e0 : b.eval (.tmp 12) = .bool true := hv 7 12 (by kernel_rfl) (by kernel_rfl) (of_decide_eq_true (by kernel_rfl))
      have e1 : b.eval (.tmp 15) = .bool true := hv 10 15 (by kernel_rfl) (by kernel_rfl) (of_decide_eq_true (by kernel_rfl))
      exact wp_val (.bool true) (by simp only [execOp, e0, e1]; rfl) (hK _ _ rfl (Below.refl _ _))
    · obtain rfl : (⟨some 17, .move (Operand.tmp 16), _, _, _, _⟩ : Oper) = o := Option.some.inj ho
      refine ask_plain rfl ?_
      have e : b.eval (.tmp 16) = .bool true := hv 11 16 (by kernel_rfl) (by kernel_rfl) (of_decide_eq_true (by kernel_rfl))
      exact wp_val _ rfl (hK _ _ e (Below.refl _ _))
    · obtain rfl : (⟨some 18, .call { callee := (Callee.value (Operand.func 44)), args := #[], argTypes := #[] }, _, _, _, _⟩ : Oper) = o := Option.some.inj ho
      have hgd := hv 12 17 (by kernel_rfl) (by kernel_rfl) (of_decide_eq_true (by kernel_rfl))
      refine ask_yes 12 17 true rfl (by kernel_rfl) (by rw [hsize]; exact (of_decide_eq_true (by kernel_rfl))) hgd ?_
      refine wp_call_fn 44 #[] #[] rfl Try.f44 _ Try.func44 (by kernel_rfl) rfl #[] (by simp) ((awake4_any w1).mono ?_)
      rintro e w2 ⟨rfl, hb2⟩
      exact ⟨_, rfl, hK _ _ rfl hb2⟩
    · obtain rfl : (⟨some 19, .pick (Operand.tmp 17) (Operand.tmp 18) (Operand.const (Value.bool false)), _, _, _, _⟩ : Oper) = o := Option.some.inj ho
      refine ask_plain rfl ?_
      have e0 : b.eval (.tmp 17) = .bool true := hv 12 17 (by kernel_rfl) (by kernel_rfl) (of_decide_eq_true (by kernel_rfl))
      have e1 : b.eval (.tmp 18) = .bool true := hv 13 18 (by kernel_rfl) (by kernel_rfl) (of_decide_eq_true (by kernel_rfl))
      exact wp_val (.bool true) (by simp only [execOp, e0, e1]; rfl) (hK _ _ rfl (Below.refl _ _))
  · intro vs w3 hp hb3
    have HB3 := Lib.hid (B2.out.trans (hb3.mono B2.out.size))
    have v14 : vs 14 = .bool true := hp 14 (by decide)
    change wpList _ _ _ [_] _ _
    simp only [putD, Act.put, List.setIfInBounds_toArray, List.set_cons_zero, List.set_cons_succ, v14]
    generalize vs 0 = y0, vs 1 = y1, vs 2 = y2
    clear hp hb3
    go_wp2
    go_ret
    exact ⟨rfl, HB3.out⟩
end Go.Proofs.Ytjaakhjfpigdfaa
