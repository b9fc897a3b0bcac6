import Derived.Test.YtjaakhjfpigdfaaC1
/-! A block turned: with; xored. -/
namespace Go.Proofs.Ytjaakhjfpigdfaa
open Go.RowKit
set_option linter.unusedVariables false
set_option linter.unusedSimpArgs false
set_option maxRecDepth 100000 in
set_option maxHeartbeats 4000000 in
theorem with_any (b : By) (hb : b.length = 64) (m : BitVec 8) (w : World) : Calls Try.prog 87 #[.agg (V8 b), .int .u8 (m.toNat : Int)] w fun e w' => ∃ v, e = .returned v ∧ EqN w' (xorB b m) v ∧ Below w.heap.size w w' := by
  have z1 := Lib.hid (heap_new w (.cells (V8 b) 74) w.heap.size rfl)
  have b1 := Lib.hid (below_alloc1 w (.cells (V8 b) 74))
  have hx0 := xorN_zero b m hb
  have HXA := Lib.hid (xorN_all b m hb)
  have HBL := Lib.hid hb
  obtain ⟨W1, hW1⟩ : ∃ W, w.alloc (.cells (V8 b) 74) = W := ⟨_, rfl⟩
  rw [hW1] at z1 b1
  have HW1 := Lib.hid hW1
  have HX0 := Lib.hid hx0
  clear hW1 hx0 hb
  go_enter Try.func87, Try.ntmps87
  go_upto_region 1 with (fail)
  rw [HW1.out]
  obtain ⟨g2, hg2⟩ : ∃ g, w.heap.size = g := ⟨_, rfl⟩
  rw [hg2] at z1
  rw [hg2]
  have HG2 := Lib.hid hg2
  clear hg2 HW1
  go_wp2
  go_loopg [6] 64 (fun gk v6 wr => ∃ i : Nat, gk = 64 - i ∧ i ≤ 64 ∧ v6 = .int .i64 (i : Int) ∧ wr.heap[g2]? = some (.cells (V8 (xorN b m i)) 74 (0, 0)) ∧ Below w.heap.size w wr)
  case atStart => exact ⟨0, rfl, by omega, rfl, by rw [HX0.out]; exact z1.out, b1.out⟩
  case round =>
    clear z1 b1
    obtain ⟨i, rfl, hi, rfl, hz, hbel⟩ := hrel
    by_cases hlt : i < 64
    · have hg := xorN_get b m i hlt
      have hs := xorN_step b m i
      have hl := xorN_len b m i
      obtain ⟨P, hP⟩ : ∃ P, xorN b m i = P := ⟨_, rfl⟩
      obtain ⟨x, hx⟩ : ∃ x, b.getD i 0 = x := ⟨_, rfl⟩
      rw [hP] at hz hg hs hl
      rw [hx] at hg hs
      have q2 : wr.cell? ⟨g2, i, none⟩ = some (.int .u8 (x.toNat : Int)) := by rw [Joins.cell_of_block hz, ← hg]; exact V8_at _ i (by omega)
      have f2 := fr_of hz i
      have hx8 := xor8 x m
      have hst := heap_setCell hz i (.int .u8 ((x ^^^ m).toNat : Int))
      rw [V8_set, hs] at hst
      have Z2 := Lib.hid hst
      have HB := Lib.hid (hbel.setCell (p := ⟨g2, i, none⟩) (by have := HG2.out; simp; omega) (.int .u8 ((x ^^^ m).toNat : Int)))
      have hlI : (i : Int) < 64 := by omega
      obtain ⟨y, hy⟩ : ∃ y, x ^^^ m = y := ⟨_, rfl⟩
      rw [hy] at hx8 Z2 HB
      clear hst hs hg hl hz hbel hP hx hy
      go_wp2
      go_roundg (64 - (i + 1))
      case measure => omega
      case rel => exact ⟨i + 1, rfl, by omega, by go_num, Z2.out, HB.out⟩
    · obtain rfl : i = 64 := by omega
      rw [HXA.out] at hz
      have HE := Lib.hid (EqN.arr hz 64 (by rw [xorB_len]; exact HBL.out) (by decide))
      have HB := Lib.hid hbel
      clear hz hbel
      go_wp2
      go_ret
      exact ⟨_, rfl, HE.out, HB.out⟩
set_option maxRecDepth 100000 in
set_option maxHeartbeats 4000000 in
theorem xored_any (b : By) (v : Value) (m : BitVec 8) (w : World) (hE : EqN w b v) (hl : b.length ≤ 1000000) : Calls Try.prog 89 #[v, .int .u8 (m.toNat : Int)] w fun e w' => ∃ v, e = .returned v ∧ EqN w' (xorB b m) v ∧ Below w.heap.size w w' := by
  obtain ⟨i0, hi0, hz0, hz1, hz2⟩ := info_parts info5
  obtain ⟨A, c, rfl, hc, hr, hn⟩ := hE
  have HR := Lib.hid hr
  have HTS := Lib.hid (show ∀ i, i < b.length → xorB (b.take (i + 1)) m = xorB (b.take i) m ++ [b.getD i 0 ^^^ m] from fun i hi => by
    unfold xorB
    rw [List.take_add_one, List.map_append, List.getElem?_eq_getElem hi, List.getD_eq_getElem?_getD, List.getElem?_eq_getElem hi]
    rfl)
  have HTL := Lib.hid (show ∀ i, i ≤ b.length → (xorB (b.take i) m).length = i from fun i hi => by rw [xorB_len, List.length_take]; omega)
  have HTA := Lib.hid (show xorB (b.take b.length) m = xorB b m by rw [List.take_length])
  obtain ⟨n, hbn⟩ : ∃ n, b.length = n := ⟨_, rfl⟩
  rw [hbn] at hc hl HTS HTL HTA ⊢
  have HBN := Lib.hid hbn
  clear hr hn hbn
  go_enter Try.func89, Try.ntmps89
  go_wp2
  go_loopg [5, 6] n (fun gk v5 v6 wr => ∃ i : Nat, gk = n - i ∧ i ≤ n ∧ v6 = .int .i64 (i : Int) ∧ wr.ownsRow w.heap.size 5 1 v5 i (bytesV (xorB (b.take i) m)) ∧ Below w.heap.size w wr)
  case atStart => exact ⟨0, rfl, by omega, rfl, ⟨rfl, .inl ⟨rfl, rfl⟩⟩, Below.refl _ _⟩
  case round =>
    obtain ⟨i, rfl, hi, rfl, hown, hbel⟩ := hrel
    have hsr := hbel.size
    by_cases hlt : i < n
    · obtain ⟨ad, rfl, hcell⟩ := RdB.at' HR.out i (by rw [HBN.out]; exact hlt)
      have hx : b[i]'(by rw [HBN.out]; exact hlt) = b.getD i 0 := by rw [List.getD_eq_getElem?_getD, List.getElem?_eq_getElem (by rw [HBN.out]; exact hlt)]; rfl
      rw [hx] at hcell
      have hts := HTS.out i hlt
      obtain ⟨x, hx2⟩ : ∃ x, b.getD i 0 = x := ⟨_, rfl⟩
      rw [hx2] at hcell hts
      have q0 : wr.cell? (ad.add i) = some (.int .u8 (x.toNat : Int)) := (hbel.cell (World.block_lt_of_cell? _ _ hcell)).trans hcell
      have hx8 := xor8 x m
      obtain ⟨y, hy⟩ : ∃ y, x ^^^ m = y := ⟨_, rfl⟩
      rw [hy] at hx8 hts
      have HO := Lib.hid hown
      have HTS1 := Lib.hid hts
      have HB := Lib.hid hbel
      have hlI : (i : Int) < (n : Int) := by omega
      clear hown hts hbel hcell hx hx2 hy
      go_wp2_with (first | (at_builtin; refine wpList_append_own _ rfl (.tmp 13) (.tmp 20) 35 rfl w.heap.size 5 i0 (.int .u8 0) 1 1 Try.underlying35 hi0 hz0 hz1 hz2 rfl (by decide) _ i _ rfl (HO.out.alloc _) ⟨wr.heap.size, 0, none⟩ 1 1 [.int .u8 (y.toNat : Int)] rfl rfl (cell_one_at _ _ _ _ rfl) (oneB _) (by unfold maxLen; omega) (by omega) (by simp; omega) ?_; intro v' w3 hown' hgrow _; have hb3 : Below w.heap.size w w3 := (HB.out.alloc hsr _).grown hgrow (by simp; omega) (own_base' HO.out); have HO3 := Lib.hid hown'; have HB3 := Lib.hid hb3; clear hown' hgrow hb3) | fail)
      go_roundg (n - (i + 1))
      case measure => omega
      case rel =>
        refine ⟨i + 1, rfl, by omega, by go_num, ?_, HB3.out⟩
        have ho := HO3.out
        rw [bytesV_snoc, ← HTS1.out] at ho
        exact ho
    · obtain rfl : i = n := by omega
      rw [HTA.out] at hown
      have HE := Lib.hid (EqN.own hown)
      have HB := Lib.hid hbel
      clear hown hbel
      go_wp2
      go_ret
      exact ⟨_, rfl, HE.out, HB.out⟩
end Go.Proofs.Ytjaakhjfpigdfaa
