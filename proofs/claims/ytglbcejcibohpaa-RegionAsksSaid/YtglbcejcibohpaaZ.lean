import Derived.Test.YtglbcejcibohpaaX
/-! RegionTurns: the law. -/
namespace Go.Proofs.Ytglbcejcibohpaa
open Go.RowKit
set_option linter.unusedVariables false
set_option linter.unusedSimpArgs false
theorem allI_nil : AllI [] := fun e he => by simp at he
theorem give_allI (b : Int) (l : List Ext) (e : Ext) : AllI (giveC b l e).1 := by
  rcases give_cases b l e with ⟨r, g1, g2, g3, g4, g5⟩ | ⟨c, g1, _⟩
  · rw [g1]; exact allI_free g5 g3.2
  · rw [g1]; exact allI_nil
theorem claim_allI (b : Int) (l : List Ext) (e : Ext) : AllI (claimC b l e).1 := by
  unfold claimC
  by_cases hc : checkE b l = 0
  · obtain ⟨hb, hf⟩ := check_zero hc
    rw [if_pos hc]
    by_cases he : liesE b e
    · rw [if_pos he]
      by_cases hh : hasB l e.1 e.2 = true
      · rw [if_pos hh]; exact allI_free (without_free he.2.1 hf) hb.2
      · rw [if_neg hh]; exact allI_nil
    · rw [if_neg he]; exact allI_nil
  · rw [if_neg hc]; exact allI_nil
theorem other_allI (b : Int) (l : List Ext) : AllI (otherC b l).1 := by
  unfold otherC
  by_cases hc : checkE b l = 0
  · obtain ⟨hb, hf⟩ := check_zero hc
    rw [if_pos hc]; exact allI_free (other_ok hb.1 hf).1 hb.2
  · rw [if_neg hc]; exact allI_nil
set_option maxRecDepth 100000 in
set_option maxHeartbeats 4000000 in
theorem regionTurns_any (b : Int) (l0 : List Ext) (A : Option Addr) (cap : Nat) (a n : Int) (w : World) (hb : I64 b) (hr0 : RdE w A l0) (hl0 : l0.length ≤ cap) (ha : I64 a) (hn : I64 n) :
    Calls Try.prog 9 #[.int .i64 b, .slice A l0.length cap, eV a n] w fun e w' => e = .returned (.bool true) ∧ Below w.heap.size w w' := by
  have FW := Lib.hid (fun w' => few_any l0 A cap w' hl0 hr0.1)
  have hr := hr0.take 5000
  have hl : (l0.take 5000).length ≤ cap := by rw [List.length_take]; omega
  obtain ⟨l, hL⟩ : ∃ l, l0.take 5000 = l := ⟨_, rfl⟩
  rw [hL] at FW hr hl
  have hm := hr.1
  have HR := Lib.hid hr
  have AW := Lib.hid (fun w' => awake_any w')
  have T0 := Lib.hid (fun w' (h : Below w.heap.size w w') => claim_any b l A cap a n w' hb ha hn (HR.out.below h) hl)
  have T1 := Lib.hid (fun w' (h : Below w.heap.size w w') => rclaim_any b l A cap a n w' hb ha hn (HR.out.below h) hl)
  have T2 := Lib.hid (fun w' (h : Below w.heap.size w w') => give_any b l A cap a n w' hb ha hn (HR.out.below h) hl)
  have T3 := Lib.hid (fun w' (h : Below w.heap.size w w') => rgive_any b l A cap a n w' hb ha hn (HR.out.below h) hl)
  have T4 := Lib.hid (fun w' (h : Below w.heap.size w w') => other_any b l A cap w' hb (HR.out.below h) hl)
  have T5 := Lib.hid (fun w' (h : Below w.heap.size w w') => rother_any b l A cap w' hb (HR.out.below h) hl)
  have I0 := claim_allI b l (a, n)
  obtain ⟨⟨R0, c0⟩, hC0⟩ : ∃ C, claimC b l (a, n) = C := ⟨_, rfl⟩
  rw [hC0] at T0 T1 I0
  simp only at T0 T1 I0
  replace I0 := Lib.hid I0
  clear hC0
  have I1 := give_allI b l (a, n)
  obtain ⟨⟨R1, c1⟩, hC1⟩ : ∃ C, giveC b l (a, n) = C := ⟨_, rfl⟩
  rw [hC1] at T2 T3 I1
  simp only at T2 T3 I1
  replace I1 := Lib.hid I1
  clear hC1
  have I2 := other_allI b l
  obtain ⟨⟨R2, c2⟩, hC2⟩ : ∃ C, otherC b l = C := ⟨_, rfl⟩
  rw [hC2] at T4 T5 I2
  simp only at T4 T5 I2
  replace I2 := Lib.hid I2
  clear hC2
  have b0 : Below w.heap.size w (w.alloc (eO a n)) := (Below.refl _ _).alloc (Nat.le_refl _) _
  have r0 := Lib.hid (heap_new w (eO a n) w.heap.size rfl)
  have k0 : (w.alloc (eO a n)).cell? ⟨w.heap.size, 0, none⟩ = some (.int .i64 a) := by rw [Joins.cell_of_block r0.out]; rfl
  have k1 : (w.alloc (eO a n)).cell? ⟨w.heap.size, 1, none⟩ = some (.int .i64 n) := by rw [Joins.cell_of_block r0.out]; rfl
  clear hL hr hr0 hl0
  go_enter Try.func9, Try.ntmps9
  go_upto_region 3 with (first | (go_at_call 10; refine (FW.out _).mono ?_; rintro e w' ⟨rfl, rfl⟩) | (go_at_call 18; refine (T0.out _ b0).mono ?_; rintro e w1 ⟨v, rfl, hv, bq⟩; have HV := Lib.hid hv; have BQ := Lib.hid bq; have b1 : Below w.heap.size w w1 := b0.trans (bq.mono b0.size); have r1 := Lib.hid (keepH bq r0.out); clear hv bq) | fail)
  obtain ⟨A0, d0, rfl, hl0', hr0⟩ := RdE.own HV.out I0.out
  have H0 := Lib.hid hr0
  clear k0 k1 HV BQ hr0 T0
  have k0 : w1.cell? ⟨w.heap.size, 0, none⟩ = some (.int .i64 a) := by rw [Joins.cell_of_block r1.out]; rfl
  have k1 : w1.cell? ⟨w.heap.size, 1, none⟩ = some (.int .i64 n) := by rw [Joins.cell_of_block r1.out]; rfl
  go_upto_region 4 with (first | (go_at_call 28; refine (T1.out _ b1).mono ?_; rintro e w2 ⟨v, rfl, hv, bq⟩; have HV := Lib.hid hv; have BQ := Lib.hid bq; have b2 : Below w.heap.size w w2 := b1.trans (bq.mono b1.size); have r2 := Lib.hid (keepH bq r1.out); clear hv bq) | fail)
  obtain ⟨A1, d1, rfl, hl1', hr1⟩ := RdE.own HV.out I0.out
  have H1 := Lib.hid hr1
  replace H0 := Lib.hid (H0.out.below BQ.out)
  clear k0 k1 HV BQ hr1 T1
  have k0 : w2.cell? ⟨w.heap.size, 0, none⟩ = some (.int .i64 a) := by rw [Joins.cell_of_block r2.out]; rfl
  have k1 : w2.cell? ⟨w.heap.size, 1, none⟩ = some (.int .i64 n) := by rw [Joins.cell_of_block r2.out]; rfl
  go_upto_region 5 with (first | (go_at_call 16; refine (T2.out _ b2).mono ?_; rintro e w3 ⟨v, rfl, hv, bq⟩; have HV := Lib.hid hv; have BQ := Lib.hid bq; have b3 : Below w.heap.size w w3 := b2.trans (bq.mono b2.size); have r3 := Lib.hid (keepH bq r2.out); clear hv bq) | fail)
  obtain ⟨A2, d2, rfl, hl2', hr2⟩ := RdE.own HV.out I1.out
  have H2 := Lib.hid hr2
  replace H0 := Lib.hid (H0.out.below BQ.out)
  replace H1 := Lib.hid (H1.out.below BQ.out)
  clear k0 k1 HV BQ hr2 T2
  have k0 : w3.cell? ⟨w.heap.size, 0, none⟩ = some (.int .i64 a) := by rw [Joins.cell_of_block r3.out]; rfl
  have k1 : w3.cell? ⟨w.heap.size, 1, none⟩ = some (.int .i64 n) := by rw [Joins.cell_of_block r3.out]; rfl
  go_upto_region 6 with (first | (go_at_call 29; refine (T3.out _ b3).mono ?_; rintro e w4 ⟨v, rfl, hv, bq⟩; have HV := Lib.hid hv; have BQ := Lib.hid bq; have b4 : Below w.heap.size w w4 := b3.trans (bq.mono b3.size); have r4 := Lib.hid (keepH bq r3.out); clear hv bq) | fail)
  obtain ⟨A3, d3, rfl, hl3', hr3⟩ := RdE.own HV.out I1.out
  have H3 := Lib.hid hr3
  replace H0 := Lib.hid (H0.out.below BQ.out)
  replace H1 := Lib.hid (H1.out.below BQ.out)
  replace H2 := Lib.hid (H2.out.below BQ.out)
  clear k0 k1 HV BQ hr3 T3
  go_upto_region 7 with (first | (go_at_call 19; refine (T4.out _ b4).mono ?_; rintro e w5 ⟨v, rfl, hv, bq⟩; have HV := Lib.hid hv; have BQ := Lib.hid bq; have b5 : Below w.heap.size w w5 := b4.trans (bq.mono b4.size); have r5 := Lib.hid (keepH bq r4.out); clear hv bq) | fail)
  obtain ⟨A4, d4, rfl, hl4', hr4⟩ := RdE.own HV.out I2.out
  have H4 := Lib.hid hr4
  replace H0 := Lib.hid (H0.out.below BQ.out)
  replace H1 := Lib.hid (H1.out.below BQ.out)
  replace H2 := Lib.hid (H2.out.below BQ.out)
  replace H3 := Lib.hid (H3.out.below BQ.out)
  clear HV BQ hr4 T4
  go_upto_region 8 with (first | (go_at_call 30; refine (T5.out _ b5).mono ?_; rintro e w6 ⟨v, rfl, hv, bq⟩; have HV := Lib.hid hv; have BQ := Lib.hid bq; have b6 : Below w.heap.size w w6 := b5.trans (bq.mono b5.size); have r6 := Lib.hid (keepH bq r5.out); clear hv bq) | fail)
  obtain ⟨A5, d5, rfl, hl5', hr5⟩ := RdE.own HV.out I2.out
  have H5 := Lib.hid hr5
  replace H0 := Lib.hid (H0.out.below BQ.out)
  replace H1 := Lib.hid (H1.out.below BQ.out)
  replace H2 := Lib.hid (H2.out.below BQ.out)
  replace H3 := Lib.hid (H3.out.below BQ.out)
  replace H4 := Lib.hid (H4.out.below BQ.out)
  clear HV BQ hr5 T5
  have S0 := Lib.hid (fun w' (h : Below w6.heap.size w6 w') => same_yes R0 A0 A1 d0 d1 w' (H0.out.below h) (H1.out.below h) hl0' hl1')
  have S1 := Lib.hid (fun w' (h : Below w6.heap.size w6 w') => same_yes R1 A2 A3 d2 d3 w' (H2.out.below h) (H3.out.below h) hl2' hl3')
  have S2 := Lib.hid (fun w' (h : Below w6.heap.size w6 w') => same_yes R2 A4 A5 d4 d5 w' (H4.out.below h) (H5.out.below h) hl4' hl5')
  have B6 := Lib.hid (Below.refl w6.heap.size w6)
  clear H0 H1 H2 H3 H4 H5 FW r0 r1 r2 r3 r4 r5 r6 I0 I1 I2
  go_wp2_with (first | (go_at_call 13; (with_reducible refine (S0.out _ B6.out).mono ?_); rintro e w7 ⟨rfl, bq⟩; have B7 := Lib.hid (B6.out.trans (bq.mono B6.out.size)); clear bq) | (go_at_call 13; (with_reducible refine (S1.out _ B7.out).mono ?_); rintro e w8 ⟨rfl, bq⟩; have B8 := Lib.hid (B7.out.trans (bq.mono B7.out.size)); clear bq) | (go_at_call 13; (with_reducible refine (S2.out _ B8.out).mono ?_); rintro e w9 ⟨rfl, bq⟩; have B9 := Lib.hid (B8.out.trans (bq.mono B8.out.size)); clear bq) | (go_at_call 14; refine (AW.out _).mono ?_; rintro e w10 ⟨rfl, bq⟩; have B10 := Lib.hid (B9.out.trans (bq.mono B9.out.size)); clear bq) | fail)
  go_ret
  exact ⟨rfl, b6.trans (B10.out.mono b6.size)⟩
end Go.Proofs.Ytglbcejcibohpaa
