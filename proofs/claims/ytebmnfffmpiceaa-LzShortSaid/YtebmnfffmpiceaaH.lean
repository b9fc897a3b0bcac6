import Derived.Test.YtebmnfffmpiceaaG
/-! Longest. -/
namespace Go.Proofs.Ytebmnfffmpiceaa
open Go.RowKit
set_option linter.unusedVariables false
set_option linter.unusedSimpArgs false
theorem below_set3 {B : Nat} {a w : World} (h : Below B a w) {k : Nat} (hk : B ≤ k) (b0 b1 b2 : Value) : Below B a (((w.setCell ⟨k, 0, none⟩ b0).setCell ⟨k, 1, none⟩ b1).setCell ⟨k, 2, none⟩ b2) :=
  ((h.setCell (p := ⟨k, 0, none⟩) hk b0).setCell (p := ⟨k, 1, none⟩) hk b1).setCell (p := ⟨k, 2, none⟩) hk b2
theorem below_dr {B : Nat} {a w : World} (h : Below B a w) (n : Nat) : Below B a (w.drewN n) := ⟨h.os, h.tape, h.output, h.size, h.block⟩
theorem set3_other {w : World} {k j : Nat} {o : Obj} (hj : j ≠ k) (h : w.heap[j]? = some o) (b0 b1 b2 : Value) : (((w.setCell ⟨k, 0, none⟩ b0).setCell ⟨k, 1, none⟩ b1).setCell ⟨k, 2, none⟩ b2).heap[j]? = some o := by
  simp only [World.setCell, Array.getElem?_modify]
  rw [if_neg (by omega), if_neg (by omega), if_neg (by omega)]
  exact h

set_option maxRecDepth 100000 in
set_option maxHeartbeats 4000000 in
theorem rlong_any (b : By) (ad : Addr) (cap at' : Nat) (w : World) (hr : RdB w (some ad) b) (hl : b.length ≤ cap) (hs : b.length ≤ 65536) (hat : at' < b.length) :
    Calls Try.prog 26 #[.slice (some ad) b.length cap, .int .i64 at'] w fun e w' => e = .returned (tokV (tokOf b at' (longT b at'))) ∧ Below w.heap.size w w' := by
  obtain ⟨ad', e, cx⟩ := RdB.at' hr at' hat
  cases e
  obtain ⟨x, hx⟩ : ∃ x, b[at'] = x := ⟨_, rfl⟩
  rw [hx] at cx
  have HX := Lib.hid hx
  have Hr := Lib.hid hr
  have cx1 := cell_old (.cells #[.int .i64 0, .int .i64 0, .int .u8 0] 38) cx
  obtain ⟨T, hT⟩ : ∃ T, tokOf b at' (longT b at') = T := ⟨_, rfl⟩
  rw [hT]
  have HT := Lib.hid hT
  clear hr hx cx hT
  go_enter Try.func26, Try.ntmps26
  go_wp2
  clear cx1
  go_loopw [6] (fun dv wr => ∃ k : Nat, k ≤ at' ∧ k ≤ 4096 ∧ dv = .int .i64 ((k : Int) + 1) ∧ wr.heap[w.heap.size + 1]? = some (tokO (tokOf b at' (foldT b at' k))) ∧ wr.heap[w.heap.size]? = some (.cells #[.int .i64 0, .int .i64 0, .int .u8 0] 38) ∧ Below w.heap.size w wr) (fun dv _ => 4097 - (intOf dv).toNat)
  case atStart =>
    refine ⟨0, Nat.zero_le _, Nat.zero_le _, rfl, ?_, heap_old _ trivial (heap_new _ _ _ rfl), ((Below.refl _ _).alloc (Nat.le_refl _) _).alloc (by simp) _⟩
    have e : tokOf b at' (foldT b at' 0) = (0, 1, x) := by
      unfold tokOf foldT
      simp [List.getD_eq_getElem?_getD, List.getElem?_eq_getElem hat, HX.out]
    rw [e]; exact heap_new _ _ _ (by simp)
  case round =>
    obtain ⟨k, hk1, hk2, rfl, hs1, hs0, hbel⟩ := hrel
    have hsr := hbel.size
    obtain ⟨l0, hl0⟩ : ∃ l0, (foldT b at' k).2 = l0 := ⟨_, rfl⟩
    have hl0' : l0 ≤ 258 := by rw [← hl0]; exact (foldT_len b at' k).2.1
    have htl := tokOf_len b at' (foldT b at' k)
    rw [hl0] at htl
    obtain ⟨⟨d, l, y⟩, htk⟩ : ∃ t, tokOf b at' (foldT b at' k) = t := ⟨_, rfl⟩
    rw [htk] at hs1 htl
    simp only at htl
    subst htl
    have Hs1 : Hid (wr.heap[w.heap.size + 1]? = some (.cells #[.int .i64 d, .int .i64 l0, .int .u8 y.toNat] 38)) := hs1
    have Hs0 := Lib.hid hs0
    have Htk := Lib.hid htk
    have Hl0 := Lib.hid hl0
    clear hs1 hs0 htk hl0
    have hlt1 : w.heap.size + 1 < wr.heap.size := (Array.getElem?_eq_some_iff.1 Hs1.out).1
    have cc0 : wr.cell? ⟨w.heap.size + 1, 0, none⟩ = some (.int .i64 d) := by rw [Joins.cell_of_block Hs1.out]; rfl
    have cc1 : wr.cell? ⟨w.heap.size + 1, 1, none⟩ = some (.int .i64 l0) := by rw [Joins.cell_of_block Hs1.out]; rfl
    have cc2 : wr.cell? ⟨w.heap.size + 1, 2, none⟩ = some (.int .u8 y.toNat) := by rw [Joins.cell_of_block Hs1.out]; rfl
    have d0 : wr.cell? ⟨w.heap.size, 0, none⟩ = some (.int .i64 0) := by rw [Joins.cell_of_block Hs0.out]; rfl
    have d1 : wr.cell? ⟨w.heap.size, 1, none⟩ = some (.int .i64 0) := by rw [Joins.cell_of_block Hs0.out]; rfl
    have d2 : wr.cell? ⟨w.heap.size, 2, none⟩ = some (.int .u8 0) := by rw [Joins.cell_of_block Hs0.out]; rfl
    have f0 := fr_of Hs0.out 0
    have f1 := fr_of Hs0.out 1
    have f2 := fr_of Hs0.out 2
    have e0 := fr_of Hs1.out 0
    have e1 := fr_of Hs1.out 1
    have e2 := fr_of Hs1.out 2
    by_cases h1 : k + 1 ≤ at'
    · by_cases h2 : k + 1 ≤ 4096
      · have hrd : RdB wr (some ad) b := RdR.below (R' := EqB) Hr.out hbel (fun _ _ h => h)
        have RC := Lib.hid (rreach_any b (some ad) cap (at' - (k + 1)) at' wr hrd hl hs (k + 1) (by omega) (by omega) hat)
        have hRle := reachN_le b (at' - (k + 1)) at'
        have st := tokOf_step b at' k h2
        have sm := tokOf_same b at' k
        have fu := longT_full b at' (k + 1) h1
        obtain ⟨R, hR⟩ : ∃ R, reachN b (at' - (k + 1)) at' = R := ⟨_, rfl⟩
        rw [hR] at st sm RC hRle
        rw [Hl0.out] at st sm
        have ek : (((k + 1 : Nat) : Int)) = (k : Int) + 1 := by push_cast; rfl
        rw [ek] at RC
        have St := Lib.hid st
        have Sm := Lib.hid sm
        have Fu := Lib.hid fu
        clear hR st sm fu hrd ek
        have b1 : decide ((k : Int) + 1 ≤ (at' : Int)) = true := by simp; omega
        have b2 : decide ((k : Int) + 1 ≤ 4096) = true := by simp; omega
        by_cases h4 : 4 ≤ R
        · have b4 : decide (4 ≤ (R : Int)) = true := by simp; omega
          by_cases hgt : l0 < R
          · have b5 : decide ((l0 : Int) < (R : Int)) = true := by simp; omega
            have tk : Hid (tokOf b at' (foldT b at' (k + 1)) = ((k : Int) + 1, (R : Int), 0)) := by
              show _ = _
              rw [St.out h4 hgt]; unfold tokOf; rw [if_neg (by simp)]; rfl
            by_cases h258 : R = 258
            · subst h258
              have ET := Lib.hid (show T = ((k : Int) + 1, (258 : Int), 0) by
                rw [← HT.out, Fu.out (by rw [St.out h4 hgt]), tk.out]; rfl)
              go_wp2_with (first | (go_at_call 30; refine RC.out.mono ?_; rintro e w3 ⟨rfl, nq, rfl⟩) | fail)
              exact bodyPost_ret (v := tokV T) (by rw [ET.out]; simp [results, Try.results26, go_sem, d0, d1, d2, cc0, cc1, cc2]) rfl ⟨rfl, by repeat (first | exact below_dr hbel nq | refine Below.setCell ?_ (by simp only; omega) _)⟩
            · have b6 : ((R : Int) == 258) = false := by rw [beq_eq_false_iff_ne]; omega
              go_wp2_with (first | (go_at_call 30; refine RC.out.mono ?_; rintro e w3 ⟨rfl, nq, rfl⟩) | fail)
              go_roundw
              case rel => exact ⟨k + 1, h1, h2, by go_num, by rw [tk.out]; exact set3 (w := wr.drewN nq) Hs1.out _ _ _, set3_other (w := wr.drewN nq) (by omega) Hs0.out _ _ _, below_set3 (below_dr hbel nq) (by omega) _ _ _⟩
              case measure => simp [intOf]; omega
          · have b5 : decide ((l0 : Int) < (R : Int)) = false := by simp; omega
            have sk := Lib.hid (Sm.out (fun h => hgt h.2))
            by_cases h258 : R = 258
            · subst h258
              have ET := Lib.hid (show T = (d, (l0 : Int), y) by
                rw [← HT.out, Fu.out (by rw [sk.out, Hl0.out]; omega), sk.out, Htk.out])
              go_wp2_with (first | (go_at_call 30; refine RC.out.mono ?_; rintro e w3 ⟨rfl, nq, rfl⟩) | fail)
              exact bodyPost_ret (v := tokV T) (by rw [ET.out]; simp [results, Try.results26, go_sem, d0, d1, d2, cc0, cc1, cc2]) rfl ⟨rfl, below_set3 (below_dr hbel nq) (Nat.le_refl _) _ _ _⟩
            · have b6 : ((R : Int) == 258) = false := by rw [beq_eq_false_iff_ne]; omega
              go_wp2_with (first | (go_at_call 30; refine RC.out.mono ?_; rintro e w3 ⟨rfl, nq, rfl⟩) | fail)
              go_roundw
              case rel => exact ⟨k + 1, h1, h2, by go_num, by rw [sk.out, Htk.out]; exact Hs1.out, Hs0.out, below_dr hbel nq⟩
              case measure => simp [intOf]; omega
        · have b4 : decide (4 ≤ (R : Int)) = false := by simp; omega
          have sk := Lib.hid (Sm.out (fun h => h4 h.1))
          have b6 : ((R : Int) == 258) = false := by rw [beq_eq_false_iff_ne]; omega
          go_wp2_with (first | (go_at_call 30; refine RC.out.mono ?_; rintro e w3 ⟨rfl, nq, rfl⟩) | fail)
          go_roundw
          case rel => exact ⟨k + 1, h1, h2, by go_num, by rw [sk.out, Htk.out]; exact Hs1.out, Hs0.out, below_dr hbel nq⟩
          case measure => simp [intOf]; omega
      · obtain rfl : k = 4096 := by omega
        have b1 : decide ((4096 : Int) + 1 ≤ (at' : Int)) = true := by simp; omega
        have ET := Lib.hid (show T = (d, (l0 : Int), y) by rw [← HT.out, longT_cap b at' (by omega), Htk.out])
        go_wp2_with fail
        exact bodyPost_ret (v := tokV T) (by rw [ET.out]; simp [results, Try.results26, go_sem, d0, d1, d2, cc0, cc1, cc2]) rfl ⟨rfl, below_set3 hbel (Nat.le_refl _) _ _ _⟩
    · obtain rfl : k = at' := by omega
      have ET := Lib.hid (show T = (d, (l0 : Int), y) by rw [← HT.out]; exact Htk.out)
      have b1 : decide ((k : Int) + 1 ≤ (k : Int)) = false := by simp; omega
      go_wp2_with fail
      exact bodyPost_ret (v := tokV T) (by rw [ET.out]; simp [results, Try.results26, go_sem, d0, d1, d2, cc0, cc1, cc2]) rfl ⟨rfl, below_set3 hbel (Nat.le_refl _) _ _ _⟩
end Go.Proofs.Ytebmnfffmpiceaa
