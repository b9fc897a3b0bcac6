import Derived.Test.YtglbcejcibohpaaQ
/-! RegionBack: the law. -/
namespace Go.Proofs.Ytglbcejcibohpaa
open Go.RowKit
set_option linter.unusedVariables false
set_option linter.unusedSimpArgs false
set_option maxRecDepth 100000 in
set_option maxHeartbeats 4000000 in
theorem regionBack_any (b : Int) (l0 : List Ext) (A : Option Addr) (cap : Nat) (m a n : Int) (w : World) (hb : I64 b) (hr0 : RdE w A l0) (hl0 : l0.length ≤ cap) (hm' : I64 m) (ha : I64 a) (hn : I64 n) :
    Calls Try.prog 6 #[.int .i64 b, .slice A l0.length cap, .int .i64 m, eV a n] w fun e w' => e = .returned (.bool true) ∧ Below w.heap.size w w' := by
  have FW := Lib.hid (fun w' => few_any l0 A cap w' hl0 hr0.1)
  have hr := hr0.take 5000
  have hl : (l0.take 5000).length ≤ cap := by rw [List.length_take]; omega
  obtain ⟨l, hL⟩ : ∃ l, l0.take 5000 = l := ⟨_, rfl⟩
  rw [hL] at FW hr hl
  have hm := hr.1
  have HR := Lib.hid hr
  have b0 : Below w.heap.size w (w.alloc (eO a n)) := (Below.refl _ _).alloc (Nat.le_refl _) _
  have R0 := Lib.hid (heap_new w (eO a n) w.heap.size rfl)
  have AW := Lib.hid (awake_any (w.alloc (eO a n)))
  have TX := Lib.hid (fun w' (h : Below w.heap.size w w') => take_any b l A cap m w' hb hm' (HR.out.below h) hl)
  have GX := Lib.hid (fun w' (h : Below w.heap.size w w') => give_any b l A cap a n w' hb ha hn (HR.out.below h) hl)
  clear hL hr hr0 hl0
  rcases take_cases b l m with ⟨x, t1, t2, t3, t4, t5, t6⟩ | ⟨f, t1, t2, t3⟩
  · rw [t1] at TX
    simp only at TX
    obtain ⟨rest, hrest⟩ : ∃ r, withoutE l (x, m) = r := ⟨_, rfl⟩
    rw [hrest] at TX t2 t5
    have GTE := Lib.hid t2
    have HRS := Lib.hid (allI_free t5 t3.2)
    have HAL := Lib.hid (allI_free t4 t3.2)
    have hxI : I64 x := by unfold liesE at t6; simp only at t6; exact ⟨by omega, by omega⟩
    clear t1 t2 t3 t4 t5 t6 hrest
    rcases give_cases b l (a, n) with ⟨r, g1, g2, g3, g4, g5⟩ | ⟨c, g1, g2, g3⟩
    · rw [g1] at GX
      simp only at GX
      have CLE := Lib.hid g2
      have HRI := Lib.hid (allI_free g5 g3.2)
      have HAL := Lib.hid (allI_free g4 g3.2)
      clear g1 g2 g3 g4 g5
      go_enter Try.func6, Try.ntmps6
      go_upto_region 5 with (first | (go_at_call 14; refine AW.out.mono ?_; rintro e w1 ⟨rfl, bq⟩; have b01 : Below w.heap.size w w1 := b0.trans (bq.mono b0.size); have r1 := Lib.hid (keepH bq R0.out); clear bq) | (go_at_call 10; refine (FW.out _).mono ?_; rintro e w' ⟨rfl, rfl⟩) | (go_at_call 11; refine (TX.out _ b01).mono ?_; rintro e w2 ⟨v2, rfl, hv2, bq⟩; have HV2 := Lib.hid hv2; have b02 : Below w.heap.size w w2 := b01.trans (bq.mono b01.size); have b02' : Below w.heap.size w (w2.alloc (eO x m)) := b02.alloc b02.size _; have r2 := Lib.hid (heap_old (eO x m) trivial (keepH bq r1.out)); have BB := Lib.hid ((Below.refl w2.heap.size w2).alloc (Nat.le_refl _) (eO x m)); have g2 := heap_new w2 (eO x m) w2.heap.size rfl; clear hv2 bq) | fail)
      obtain ⟨X2, c2, rfl, hl2, hr2⟩ := RdE.own HV2.out HRS.out
      have GT := Lib.hid (give_any b rest X2 c2 x m (w2.alloc (eO x m)) hb hxI hm' (hr2.below BB.out) hl2)
      rw [GTE.out] at GT
      simp only at GT
      have k0 : (w2.alloc (eO x m)).cell? ⟨w2.heap.size, 0, none⟩ = some (.int .i64 x) := by rw [Joins.cell_of_block g2]; rfl
      have k1 : (w2.alloc (eO x m)).cell? ⟨w2.heap.size, 1, none⟩ = some (.int .i64 m) := by rw [Joins.cell_of_block g2]; rfl
      clear HV2 TX AW FW
      go_upto_region 7 with (first | (go_at_call 16; refine GT.out.mono ?_; rintro e w3 ⟨v3, rfl, hv3, bq⟩; have HV3 := Lib.hid hv3; have b03 : Below w.heap.size w w3 := b02'.trans (bq.mono b02'.size); have r3 := Lib.hid (keepH bq r2.out); clear hv3 bq) | fail)
      obtain ⟨X3, c3, rfl, hl3, hr3⟩ := RdE.own HV3.out HAL.out
      have SA3 := Lib.hid (same_yes l X3 A c3 cap w3 hr3 (HR.out.below b03) hl3 hl)
      clear k0 k1 HV3 GT g2
      go_upto_region 9 with (first | (go_at_call 13; refine SA3.out.mono ?_; rintro e w4 ⟨rfl, bq⟩; have b04 : Below w.heap.size w w4 := b03.trans (bq.mono b03.size); have r4 := Lib.hid (keepH bq r3.out); clear bq) | fail)
      have k0 : w4.cell? ⟨w.heap.size, 0, none⟩ = some (.int .i64 a) := by rw [Joins.cell_of_block r4.out]; rfl
      have k1 : w4.cell? ⟨w.heap.size, 1, none⟩ = some (.int .i64 n) := by rw [Joins.cell_of_block r4.out]; rfl
      go_upto_region 10 with (first | (go_at_call 16; refine (GX.out _ b04).mono ?_; rintro e w5 ⟨v5, rfl, hv5, bq⟩; have HV5 := Lib.hid hv5; have b05 : Below w.heap.size w w5 := b04.trans (bq.mono b04.size); have r5 := Lib.hid (keepH bq r4.out); clear hv5 bq) | fail)
      obtain ⟨X5, c5, rfl, hl5, hr5⟩ := RdE.own HV5.out HRI.out
      have CL := Lib.hid (claim_any b r X5 c5 a n w5 hb ha hn hr5 hl5)
      rw [CLE.out] at CL
      simp only at CL
      clear k0 k1 HV5
      have k0 : w5.cell? ⟨w.heap.size, 0, none⟩ = some (.int .i64 a) := by rw [Joins.cell_of_block r5.out]; rfl
      have k1 : w5.cell? ⟨w.heap.size, 1, none⟩ = some (.int .i64 n) := by rw [Joins.cell_of_block r5.out]; rfl
      go_upto_region 13 with (first | (go_at_call 18; refine CL.out.mono ?_; rintro e w6 ⟨v6, rfl, hv6, bq⟩; have HV6 := Lib.hid hv6; have b06 : Below w.heap.size w w6 := b05.trans (bq.mono b05.size); clear hv6 bq) | fail)
      obtain ⟨X6, c6, rfl, hl6, hr6⟩ := RdE.own HV6.out HAL.out
      have SA6 := Lib.hid (same_yes l X6 A c6 cap w6 hr6 (HR.out.below b06) hl6 hl)
      clear k0 k1 HV6 CL
      go_wp2_with (first | (go_at_call 13; refine SA6.out.mono ?_; rintro e w7 ⟨rfl, bq⟩; have b07 : Below w.heap.size w w7 := b06.trans (bq.mono b06.size); clear bq) | fail)
      go_ret
      exact ⟨rfl, b07⟩
    · rw [g1] at GX
      simp only at GX
      have hd : decide (c = 0) = false := decide_eq_false (by omega)
      clear g1
      go_enter Try.func6, Try.ntmps6
      go_upto_region 5 with (first | (go_at_call 14; refine AW.out.mono ?_; rintro e w1 ⟨rfl, bq⟩; have b01 : Below w.heap.size w w1 := b0.trans (bq.mono b0.size); have r1 := Lib.hid (keepH bq R0.out); clear bq) | (go_at_call 10; refine (FW.out _).mono ?_; rintro e w' ⟨rfl, rfl⟩) | (go_at_call 11; refine (TX.out _ b01).mono ?_; rintro e w2 ⟨v2, rfl, hv2, bq⟩; have HV2 := Lib.hid hv2; have b02 : Below w.heap.size w w2 := b01.trans (bq.mono b01.size); have b02' : Below w.heap.size w (w2.alloc (eO x m)) := b02.alloc b02.size _; have r2 := Lib.hid (heap_old (eO x m) trivial (keepH bq r1.out)); have BB := Lib.hid ((Below.refl w2.heap.size w2).alloc (Nat.le_refl _) (eO x m)); have g2 := heap_new w2 (eO x m) w2.heap.size rfl; clear hv2 bq) | fail)
      obtain ⟨X2, c2, rfl, hl2, hr2⟩ := RdE.own HV2.out HRS.out
      have GT := Lib.hid (give_any b rest X2 c2 x m (w2.alloc (eO x m)) hb hxI hm' (hr2.below BB.out) hl2)
      rw [GTE.out] at GT
      simp only at GT
      have k0 : (w2.alloc (eO x m)).cell? ⟨w2.heap.size, 0, none⟩ = some (.int .i64 x) := by rw [Joins.cell_of_block g2]; rfl
      have k1 : (w2.alloc (eO x m)).cell? ⟨w2.heap.size, 1, none⟩ = some (.int .i64 m) := by rw [Joins.cell_of_block g2]; rfl
      clear HV2 TX AW FW
      go_upto_region 7 with (first | (go_at_call 16; refine GT.out.mono ?_; rintro e w3 ⟨v3, rfl, hv3, bq⟩; have HV3 := Lib.hid hv3; have b03 : Below w.heap.size w w3 := b02'.trans (bq.mono b02'.size); have r3 := Lib.hid (keepH bq r2.out); clear hv3 bq) | fail)
      obtain ⟨X3, c3, rfl, hl3, hr3⟩ := RdE.own HV3.out HAL.out
      have SA3 := Lib.hid (same_yes l X3 A c3 cap w3 hr3 (HR.out.below b03) hl3 hl)
      clear k0 k1 HV3 GT g2
      go_upto_region 9 with (first | (go_at_call 13; refine SA3.out.mono ?_; rintro e w4 ⟨rfl, bq⟩; have b04 : Below w.heap.size w w4 := b03.trans (bq.mono b03.size); have r4 := Lib.hid (keepH bq r3.out); clear bq) | fail)
      have k0 : w4.cell? ⟨w.heap.size, 0, none⟩ = some (.int .i64 a) := by rw [Joins.cell_of_block r4.out]; rfl
      have k1 : w4.cell? ⟨w.heap.size, 1, none⟩ = some (.int .i64 n) := by rw [Joins.cell_of_block r4.out]; rfl
      go_upto_region 10 with (first | (go_at_call 16; refine (GX.out _ b04).mono ?_; rintro e w5 ⟨v5, rfl, hv5, bq⟩; have HV5 := Lib.hid hv5; have b05 : Below w.heap.size w w5 := b04.trans (bq.mono b04.size); have r5 := Lib.hid (keepH bq r4.out); clear hv5 bq) | fail)
      obtain ⟨A5, c5, rfl, _⟩ := own_slice HV5.out
      clear k0 k1 HV5
      go_wp2
      go_ret
      exact ⟨rfl, b05⟩
  · rw [t1] at TX
    simp only at TX
    have hdf : (f == 0) = false := by simp; omega
    clear t1
    rcases give_cases b l (a, n) with ⟨r, g1, g2, g3, g4, g5⟩ | ⟨c, g1, g2, g3⟩
    · rw [g1] at GX
      simp only at GX
      have CLE := Lib.hid g2
      have HRI := Lib.hid (allI_free g5 g3.2)
      have HAL := Lib.hid (allI_free g4 g3.2)
      clear g1 g2 g3 g4 g5
      go_enter Try.func6, Try.ntmps6
      go_upto_region 5 with (first | (go_at_call 14; refine AW.out.mono ?_; rintro e w1 ⟨rfl, bq⟩; have b01 : Below w.heap.size w w1 := b0.trans (bq.mono b0.size); have r1 := Lib.hid (keepH bq R0.out); clear bq) | (go_at_call 10; refine (FW.out _).mono ?_; rintro e w' ⟨rfl, rfl⟩) | (go_at_call 11; refine (TX.out _ b01).mono ?_; rintro e w2 ⟨v2, rfl, hv2, bq⟩; have HV2 := Lib.hid hv2; have b02 : Below w.heap.size w w2 := b01.trans (bq.mono b01.size); have b02' : Below w.heap.size w (w2.alloc (eO 0 0)) := b02.alloc b02.size _; have r2 := Lib.hid (heap_old (eO 0 0) trivial (keepH bq r1.out)); have BB := Lib.hid ((Below.refl w2.heap.size w2).alloc (Nat.le_refl _) (eO 0 0)); have g2 := heap_new w2 (eO 0 0) w2.heap.size rfl; clear hv2 bq) | fail)
      obtain ⟨A2, c2, rfl, _⟩ := own_slice HV2.out
      clear HV2 TX AW FW g2
      go_upto_region 9 with (fail)
      have k0 : (w2.alloc (eO 0 0)).cell? ⟨w.heap.size, 0, none⟩ = some (.int .i64 a) := by rw [Joins.cell_of_block r2.out]; rfl
      have k1 : (w2.alloc (eO 0 0)).cell? ⟨w.heap.size, 1, none⟩ = some (.int .i64 n) := by rw [Joins.cell_of_block r2.out]; rfl
      go_upto_region 10 with (first | (go_at_call 16; refine (GX.out _ b02').mono ?_; rintro e w5 ⟨v5, rfl, hv5, bq⟩; have HV5 := Lib.hid hv5; have b05 : Below w.heap.size w w5 := b02'.trans (bq.mono b02'.size); have r5 := Lib.hid (keepH bq r2.out); clear hv5 bq) | fail)
      obtain ⟨X5, c5, rfl, hl5, hr5⟩ := RdE.own HV5.out HRI.out
      have CL := Lib.hid (claim_any b r X5 c5 a n w5 hb ha hn hr5 hl5)
      rw [CLE.out] at CL
      simp only at CL
      clear k0 k1 HV5
      have k0 : w5.cell? ⟨w.heap.size, 0, none⟩ = some (.int .i64 a) := by rw [Joins.cell_of_block r5.out]; rfl
      have k1 : w5.cell? ⟨w.heap.size, 1, none⟩ = some (.int .i64 n) := by rw [Joins.cell_of_block r5.out]; rfl
      go_upto_region 13 with (first | (go_at_call 18; refine CL.out.mono ?_; rintro e w6 ⟨v6, rfl, hv6, bq⟩; have HV6 := Lib.hid hv6; have b06 : Below w.heap.size w w6 := b05.trans (bq.mono b05.size); clear hv6 bq) | fail)
      obtain ⟨X6, c6, rfl, hl6, hr6⟩ := RdE.own HV6.out HAL.out
      have SA6 := Lib.hid (same_yes l X6 A c6 cap w6 hr6 (HR.out.below b06) hl6 hl)
      clear k0 k1 HV6 CL
      go_wp2_with (first | (go_at_call 13; refine SA6.out.mono ?_; rintro e w7 ⟨rfl, bq⟩; have b07 : Below w.heap.size w w7 := b06.trans (bq.mono b06.size); clear bq) | fail)
      go_ret
      exact ⟨rfl, b07⟩
    · rw [g1] at GX
      simp only at GX
      have hd : decide (c = 0) = false := decide_eq_false (by omega)
      clear g1
      go_enter Try.func6, Try.ntmps6
      go_upto_region 5 with (first | (go_at_call 14; refine AW.out.mono ?_; rintro e w1 ⟨rfl, bq⟩; have b01 : Below w.heap.size w w1 := b0.trans (bq.mono b0.size); have r1 := Lib.hid (keepH bq R0.out); clear bq) | (go_at_call 10; refine (FW.out _).mono ?_; rintro e w' ⟨rfl, rfl⟩) | (go_at_call 11; refine (TX.out _ b01).mono ?_; rintro e w2 ⟨v2, rfl, hv2, bq⟩; have HV2 := Lib.hid hv2; have b02 : Below w.heap.size w w2 := b01.trans (bq.mono b01.size); have b02' : Below w.heap.size w (w2.alloc (eO 0 0)) := b02.alloc b02.size _; have r2 := Lib.hid (heap_old (eO 0 0) trivial (keepH bq r1.out)); have BB := Lib.hid ((Below.refl w2.heap.size w2).alloc (Nat.le_refl _) (eO 0 0)); have g2 := heap_new w2 (eO 0 0) w2.heap.size rfl; clear hv2 bq) | fail)
      obtain ⟨A2, c2, rfl, _⟩ := own_slice HV2.out
      clear HV2 TX AW FW g2
      go_upto_region 9 with (fail)
      have k0 : (w2.alloc (eO 0 0)).cell? ⟨w.heap.size, 0, none⟩ = some (.int .i64 a) := by rw [Joins.cell_of_block r2.out]; rfl
      have k1 : (w2.alloc (eO 0 0)).cell? ⟨w.heap.size, 1, none⟩ = some (.int .i64 n) := by rw [Joins.cell_of_block r2.out]; rfl
      go_upto_region 10 with (first | (go_at_call 16; refine (GX.out _ b02').mono ?_; rintro e w5 ⟨v5, rfl, hv5, bq⟩; have HV5 := Lib.hid hv5; have b05 : Below w.heap.size w w5 := b02'.trans (bq.mono b02'.size); have r5 := Lib.hid (keepH bq r2.out); clear hv5 bq) | fail)
      obtain ⟨A5, c5, rfl, _⟩ := own_slice HV5.out
      clear k0 k1 HV5
      go_wp2
      go_ret
      exact ⟨rfl, b05⟩
end Go.Proofs.Ytglbcejcibohpaa
