import Derived.Test.YtglbcejcibohpaaG2
import Derived.Deep.RegionHeld3
/-! RegionAsks: the law. -/
namespace Go.Proofs.Ytglbcejcibohpaa
open Go.RowKit
set_option linter.unusedVariables false
set_option linter.unusedSimpArgs false
set_option maxRecDepth 100000 in
set_option maxHeartbeats 40000000 in
theorem regionAsks_any (b : Int) (l0 : List Ext) (A : Option Addr) (cap : Nat) (a n : Int) (w : World) (hb : I64 b) (hr0 : RdE w A l0) (hl0 : l0.length ≤ cap) (ha : I64 a) (hn : I64 n) :
    Calls Try.prog 8 #[.int .i64 b, .slice A l0.length cap, eV a n] w fun e w' => e = .returned (.bool true) ∧ Below w.heap.size w w' := by
  have FW := Lib.hid (fun w' => few_any l0 A cap w' hl0 hr0.1)
  have hr := hr0.take 5000
  have hl : (l0.take 5000).length ≤ cap := by rw [List.length_take]; omega
  obtain ⟨l, hL⟩ : ∃ l, l0.take 5000 = l := ⟨_, rfl⟩
  rw [hL] at FW hr hl
  have hm := hr.1
  have HR := Lib.hid hr
  have AW := Lib.hid (fun w' => awake_any w')
  have TA := Lib.hid (fun w' => all_any b w' hb)
  have TB := Lib.hid (fun w' => rall_any b w' hb)
  have TS := Lib.hid (fun w' (h : Below w.heap.size w w') => sum_any l A cap w' (HR.out.below h) hl)
  have TR := Lib.hid (fun w' (h : Below w.heap.size w w') => rsum_any l A cap w' (HR.out.below h) hl)
  have TC := Lib.hid (fun w' (h : Below w.heap.size w w') => check_any b l A cap w' hb (HR.out.below h) hl)
  have TD := Lib.hid (fun w' (h : Below w.heap.size w w') => rcheck_any b l A cap w' hb (HR.out.below h) hl)
  have TH := Lib.hid (fun w' (h : Below w.heap.size w w') => has_any l A cap a n w' (HR.out.below h) hl ha hn)
  have TI := Lib.hid (fun w' (h : Below w.heap.size w w') => rhas_any l A cap a n w' (HR.out.below h) hl ha hn)
  have TG := Lib.hid (fun w' (h : Below w.heap.size w w') => greatest_any l A cap w' (HR.out.below h) hl)
  have TF := Lib.hid (fun w' (h : Below w.heap.size w w') => rgreatest_any l A cap w' (HR.out.below h) hl)
  have HI := allC_allI b
  obtain ⟨⟨R, c⟩, hC⟩ : ∃ C, allC b = C := ⟨_, rfl⟩
  rw [hC] at TA TB HI
  simp only at TA TB HI
  replace HI := Lib.hid HI
  obtain ⟨⟨s, sc⟩, hS⟩ : ∃ C, sumC l = C := ⟨_, rfl⟩
  rw [hS] at TS TR
  simp only at TS TR
  obtain ⟨ce, hce⟩ : ∃ C, checkE b l = C := ⟨_, rfl⟩
  rw [hce] at TC TD
  obtain ⟨hs, hhs⟩ : ∃ C, hasB l a n = C := ⟨_, rfl⟩
  rw [hhs] at TH TI
  obtain ⟨⟨gx, gy⟩, hg⟩ : ∃ C, maxS (0, 0) l = C := ⟨_, rfl⟩
  rw [hg] at TG TF
  simp only at TG TF
  have b0 : Below w.heap.size w (w.alloc (eO a n)) := (Below.refl _ _).alloc (Nat.le_refl _) _
  have r0 := Lib.hid (heap_new w (eO a n) w.heap.size rfl)
  clear hL hr hr0 hl0 hC hS hce hhs hg
  go_enter Try.func8, Try.ntmps8
  go_upto_region 3 with (first | (go_at_call 10; refine (FW.out _).mono ?_; rintro e w' ⟨rfl, rfl⟩) | (go_at_call 21; refine (TA.out _).mono ?_; rintro e w1 ⟨v, rfl, hv, bq⟩; have HV := Lib.hid hv; have BQ := Lib.hid bq; have b1 : Below w.heap.size w w1 := b0.trans (bq.mono b0.size); have r1 := Lib.hid (keepH bq r0.out); clear bq) | fail)
  obtain ⟨A0, d0, rfl, hl0, hr0⟩ := RdE.own HV.out HI.out
  have H0 := Lib.hid hr0
  clear hr0 HV hv
  clear BQ
  go_upto_region 4 with (first | (go_at_call 22; refine (TB.out _).mono ?_; rintro e w2 ⟨v, rfl, hv, bq⟩; have HV := Lib.hid hv; have BQ := Lib.hid bq; have b2 : Below w.heap.size w w2 := b1.trans (bq.mono b1.size); have r2 := Lib.hid (keepH bq r1.out); clear bq) | fail)
  obtain ⟨A1, d1, rfl, hl1, hr1⟩ := RdE.own HV.out HI.out
  have H1 := Lib.hid hr1
  clear hr1 HV hv
  replace H0 := Lib.hid (H0.out.below BQ.out)
  clear BQ
  go_upto_region 5 with (first | (go_at_call 20; refine (TS.out _ b2).mono ?_; rintro e w3 ⟨rfl, bq⟩; have BQ := Lib.hid bq; have b3 : Below w.heap.size w w3 := b2.trans (bq.mono b2.size); have r3 := Lib.hid (keepH bq r2.out); clear bq) | fail)
  replace H0 := Lib.hid (H0.out.below BQ.out)
  replace H1 := Lib.hid (H1.out.below BQ.out)
  clear BQ
  go_upto_region 6 with (first | (go_at_call 23; refine (TR.out _ b3).mono ?_; rintro e w4 ⟨rfl, bq⟩; have BQ := Lib.hid bq; have b4 : Below w.heap.size w w4 := b3.trans (bq.mono b3.size); have r4 := Lib.hid (keepH bq r3.out); clear bq) | fail)
  replace H0 := Lib.hid (H0.out.below BQ.out)
  replace H1 := Lib.hid (H1.out.below BQ.out)
  clear BQ
  have TZ := Lib.hid (fun w' (h : Below w4.heap.size w4 w') => same_yes R A0 A1 d0 d1 w' (H0.out.below h) (H1.out.below h) hl0 hl1)
  have k0 : w4.cell? ⟨w.heap.size, 0, none⟩ = some (.int .i64 a) := by rw [Joins.cell_of_block r4.out]; rfl
  have k1 : w4.cell? ⟨w.heap.size, 1, none⟩ = some (.int .i64 n) := by rw [Joins.cell_of_block r4.out]; rfl
  have z4 : w.heap.size < w4.heap.size := World.block_lt_of_cell? w4 _ k0
  have B4 := Below.refl w4.heap.size w4
  clear TA TB TS TR FW H0 H1 HI r0 r1 r2 r3 r4 b0 b1 b2 b3
  go_region_held3 (fun w' => w'.cell? ⟨w.heap.size, 0, none⟩ = some (.int .i64 a) ∧ w'.cell? ⟨w.heap.size, 1, none⟩ = some (.int .i64 n)) (with_reducible repeat' first | assumption | apply And.intro | apply keepA | apply keepD | refine keepB (by assumption) ?_)
    (first | (go_at_call 24; refine (TC.out _ (by first | exact b4 | exact b4.drew)).mono ?_; rintro e w5 ⟨rfl, bq4⟩; have b5 : Below w.heap.size w w5 := (by first | exact b4.trans (bq4.mono b4.size) | exact b4.drew.trans (bq4.mono b4.drew.size)); have B5 : Below w4.heap.size w4 w5 := (by first | exact B4.trans (bq4.mono B4.size) | exact B4.drew.trans (bq4.mono B4.drew.size))) | (go_at_call 15; refine (TD.out _ (by first | exact b5 | exact b5.drew)).mono ?_; rintro e w6 ⟨rfl, bq5⟩; have b6 : Below w.heap.size w w6 := (by first | exact b5.trans (bq5.mono b5.size) | exact b5.drew.trans (bq5.mono b5.drew.size)); have B6 : Below w4.heap.size w4 w6 := (by first | exact B5.trans (bq5.mono B5.size) | exact B5.drew.trans (bq5.mono B5.drew.size))) | (go_at_call 13; refine (TZ.out _ (by first | exact B6 | exact B6.drew)).mono ?_; rintro e w7 ⟨rfl, bq6⟩; have b7 : Below w.heap.size w w7 := (by first | exact b6.trans (bq6.mono b6.size) | exact b6.drew.trans (bq6.mono b6.drew.size)); have B7 : Below w4.heap.size w4 w7 := (by first | exact B6.trans (bq6.mono B6.size) | exact B6.drew.trans (bq6.mono B6.drew.size))) | (go_at_call 25; refine (TH.out _ (by first | exact b7 | exact b7.drew)).mono ?_; rintro e w8 ⟨rfl, bq7⟩; have b8 : Below w.heap.size w w8 := (by first | exact b7.trans (bq7.mono b7.size) | exact b7.drew.trans (bq7.mono b7.drew.size)); have B8 : Below w4.heap.size w4 w8 := (by first | exact B7.trans (bq7.mono B7.size) | exact B7.drew.trans (bq7.mono B7.drew.size))) | (go_at_call 17; refine (TI.out _ (by first | exact b8 | exact b8.drew)).mono ?_; rintro e w9 ⟨rfl, bq8⟩; have b9 : Below w.heap.size w w9 := (by first | exact b8.trans (bq8.mono b8.size) | exact b8.drew.trans (bq8.mono b8.drew.size)); have B9 : Below w4.heap.size w4 w9 := (by first | exact B8.trans (bq8.mono B8.size) | exact B8.drew.trans (bq8.mono B8.drew.size))) | (go_at_call 26; refine (TG.out _ (by first | exact b9 | exact b9.drew)).mono ?_; rintro e w10 ⟨rfl, bq9⟩; have b10 : Below w.heap.size w w10 := (by first | exact b9.trans (bq9.mono b9.size) | exact b9.drew.trans (bq9.mono b9.drew.size)); have B10 : Below w4.heap.size w4 w10 := (by first | exact B9.trans (bq9.mono B9.size) | exact B9.drew.trans (bq9.mono B9.drew.size))) | (go_at_call 27; refine (TF.out _ (by first | exact b10 | exact b10.drew)).mono ?_; rintro e w11 ⟨rfl, bq10⟩; have b11 : Below w.heap.size w w11 := (by first | exact b10.trans (bq10.mono b10.size) | exact b10.drew.trans (bq10.mono b10.drew.size)); have B11 : Below w4.heap.size w4 w11 := (by first | exact B10.trans (bq10.mono B10.size) | exact B10.drew.trans (bq10.mono B10.drew.size))) | (go_at_call 14; refine (AW.out _ ).mono ?_; rintro e w12 ⟨rfl, bq11⟩; have b12 : Below w.heap.size w w12 := (by first | exact b11.trans (bq11.mono b11.size) | exact b11.drew.trans (bq11.mono b11.drew.size)); have B12 : Below w4.heap.size w4 w12 := (by first | exact B11.trans (bq11.mono B11.size) | exact B11.drew.trans (bq11.mono B11.drew.size))))
  go_wp2
  go_ret
  exact ⟨rfl, by first | exact b12 | exact b12.drew⟩
end Go.Proofs.Ytglbcejcibohpaa
