import Derived.Test.YtjaakhjfpigdfaaR3
/-! ShaSums. -/
namespace Go.Proofs.Ytjaakhjfpigdfaa
open Go.RowKit
set_option linter.unusedVariables false
set_option linter.unusedSimpArgs false
set_option maxRecDepth 100000 in
set_option maxHeartbeats 4000000 in
theorem shaSums_true (ps : List By) (A : Option Addr) (c : Nat) (w : World) (hr : RdN w A ps) (hc : ps.length ≤ c) : Calls Try.prog 3 #[.slice A ps.length c] w fun e w' => e = .returned (.bool true) ∧ Below w.heap.size w w' := by
  have CT := Lib.hid (cut_any ps A c w hr hc)
  have hfl := cutL_flat ps
  clear hr
  go_enter Try.func3, Try.ntmps3
  go_wp2_with fail
  refine CT.out.mono ?_
  rintro e w1 ⟨v, rfl, hown, hb1⟩
  obtain ⟨A1, c1, rfl, hc1, hr1⟩ := hown.rd hb1
  obtain ⟨qs, hqs⟩ : ∃ qs, cutL ps = qs := ⟨_, rfl⟩
  rw [hqs] at hr1 hc1 hfl ⊢
  have S1 := Lib.hid (sum_any qs A1 c1 w1 hr1 hc1 (by omega))
  have hl := sumL_len qs.flatten
  have HR1 := Lib.hid hr1
  have HB1 := Lib.hid hb1
  clear hown hb1 hr1 CT hqs
  go_wp2_with fail
  refine S1.out.mono ?_
  rintro e w2 ⟨rfl, hb2⟩
  have S2 := Lib.hid (rsum_any qs A1 c1 w2 (HR1.out.below hb2) hc1 (by omega))
  have HB2 := Lib.hid (HB1.out.trans (hb2.mono HB1.out.size))
  clear S1 HR1 HB1 hb2
  go_wp2_with fail
  refine S2.out.mono ?_
  rintro e w3 ⟨rfl, hb3⟩
  have HB3 := Lib.hid (HB2.out.trans (hb3.mono HB2.out.size))
  have AL := Lib.hid (alive_any w3)
  obtain ⟨Z, hZ⟩ : ∃ Z, sumL qs.flatten = Z := ⟨_, rfl⟩
  rw [hZ] at hl ⊢
  have heq := fun w => eq_dig 25 Try.underlying25 Z Z hl hl w
  rw [show (Z == Z) = true by simp] at heq
  clear S2 HB2 hb3 hZ
  go_wp2_with (first | (go_at_call 27; refine AL.out.mono ?_; rintro e w4 ⟨rfl, hb4⟩) | fail)
  go_ret
  exact ⟨rfl, HB3.out.trans (hb4.mono HB3.out.size)⟩
end Go.Proofs.Ytjaakhjfpigdfaa
