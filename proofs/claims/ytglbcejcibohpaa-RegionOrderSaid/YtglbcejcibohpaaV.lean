import Derived.Test.YtglbcejcibohpaaU
/-! RegionTakes: the law. -/
namespace Go.Proofs.Ytglbcejcibohpaa
open Go.RowKit
set_option linter.unusedVariables false
set_option linter.unusedSimpArgs false
theorem take_allI (b : Int) (l : List Ext) (n : Int) : AllI (takeC b l n).2.1 := by
  rcases take_cases b l n with ⟨x, t1, t2, t3, t4, t5, t6⟩ | ⟨c, t1, _⟩
  · rw [t1]; exact allI_free t5 t3.2
  · rw [t1]; intro e he; simp at he
set_option maxRecDepth 100000 in
set_option maxHeartbeats 4000000 in
theorem regionTakes_any (b : Int) (l0 : List Ext) (A : Option Addr) (cap : Nat) (n : Int) (w : World) (hb : I64 b) (hr0 : RdE w A l0) (hl0 : l0.length ≤ cap) (hn : I64 n) :
    Calls Try.prog 3 #[.int .i64 b, .slice A l0.length cap, .int .i64 n] w fun e w' => e = .returned (.bool true) ∧ Below w.heap.size w w' := by
  have FW := Lib.hid (fun w' => few_any l0 A cap w' hl0 hr0.1)
  have hr := hr0.take 5000
  have hl : (l0.take 5000).length ≤ cap := by rw [List.length_take]; omega
  obtain ⟨l, hL⟩ : ∃ l, l0.take 5000 = l := ⟨_, rfl⟩
  rw [hL] at FW hr hl
  have hm := hr.1
  have HR := Lib.hid hr
  have TX := Lib.hid (take_any b l A cap n w hb hn hr hl)
  have TY := Lib.hid (fun w' (h : Below w.heap.size w w') => rtake_any b l A cap n w' hb hn (HR.out.below h) hl)
  have HI := take_allI b l n
  obtain ⟨⟨⟨X, Y⟩, R, c⟩, hC⟩ : ∃ C, takeC b l n = C := ⟨_, rfl⟩
  rw [hC] at TX TY HI
  simp only at TX TY HI
  have HI := Lib.hid HI
  clear hL hr hr0 hl0 hC
  go_enter Try.func3, Try.ntmps3
  go_upto_region 3 with (first | (go_at_call 10; refine (FW.out _).mono ?_; rintro e w' ⟨rfl, rfl⟩) | (go_at_call 11; refine TX.out.mono ?_; rintro e w1 ⟨v1, rfl, hv1, b01⟩; have HV1 := Lib.hid hv1; have b01' : Below w.heap.size w (w1.alloc (eO X Y)) := b01.alloc b01.size _; have HX := Lib.hid (heap_new w1 (eO X Y) w1.heap.size rfl); have B1 := Lib.hid ((Below.refl w1.heap.size w1).alloc (Nat.le_refl _) (eO X Y)); clear hv1) | fail)
  obtain ⟨A1, c1, rfl, hl1, hr1⟩ := RdE.own HV1.out HI.out
  have HR1 := Lib.hid hr1
  clear HV1 hr1 TX FW
  go_upto_region 4 with (first | (go_at_call 12; refine (TY.out _ b01').mono ?_; rintro e w2 ⟨v2, rfl, hv2, b12⟩; have HV2 := Lib.hid hv2; have b02 : Below w.heap.size w w2 := b01'.trans (b12.mono b01'.size); have b02' : Below w.heap.size w (w2.alloc (eO X Y)) := b02.alloc b02.size _; have HX2 := Lib.hid (heap_old (eO X Y) trivial (keepH b12 HX.out)); have HY := Lib.hid (heap_new w2 (eO X Y) w2.heap.size rfl); have B2 := Lib.hid ((Below.refl w2.heap.size w2).alloc (Nat.le_refl _) (eO X Y)); have B12 := Lib.hid ((B1.out.trans (b12.mono B1.out.size)).trans (((Below.refl w2.heap.size w2).alloc (Nat.le_refl _) (eO X Y)).mono (B1.out.trans (b12.mono B1.out.size)).size)); clear hv2 b12) | fail)
  obtain ⟨A2, c2, rfl, hl2, hr2⟩ := RdE.own HV2.out HI.out
  have SA := Lib.hid (same_yes R A1 A2 c1 c2 (w2.alloc (eO X Y)) (HR1.out.below B12.out) (hr2.below B2.out) hl1 hl2)
  have k0 : (w2.alloc (eO X Y)).cell? ⟨w1.heap.size, 0, none⟩ = some (.int .i64 X) := by rw [Joins.cell_of_block HX2.out]; rfl
  have k1 : (w2.alloc (eO X Y)).cell? ⟨w1.heap.size, 1, none⟩ = some (.int .i64 Y) := by rw [Joins.cell_of_block HX2.out]; rfl
  have j0 : (w2.alloc (eO X Y)).cell? ⟨w2.heap.size, 0, none⟩ = some (.int .i64 X) := by rw [Joins.cell_of_block HY.out]; rfl
  have j1 : (w2.alloc (eO X Y)).cell? ⟨w2.heap.size, 1, none⟩ = some (.int .i64 Y) := by rw [Joins.cell_of_block HY.out]; rfl
  obtain ⟨W, hW⟩ : ∃ W, w2.alloc (eO X Y) = W := ⟨_, rfl⟩
  rw [hW] at SA k0 k1 j0 j1 b02'
  first | rw [hW] | skip
  have AW := Lib.hid (fun w' => awake_any w')
  clear hW HV2 TY hr2 B12 B2 HX2 HY
  go_wp2_with (first | (go_at_call 13; refine SA.out.mono ?_; rintro e w3 ⟨rfl, b23⟩; have b03 : Below w.heap.size w w3 := b02'.trans (b23.mono b02'.size); clear b23) | (go_at_call 14; refine (AW.out _).mono ?_; rintro e w4 ⟨rfl, b34⟩; have b04 : Below w.heap.size w w4 := b03.trans (b34.mono b03.size); clear b34) | fail)
  go_ret
  exact ⟨rfl, b04⟩
end Go.Proofs.Ytglbcejcibohpaa
