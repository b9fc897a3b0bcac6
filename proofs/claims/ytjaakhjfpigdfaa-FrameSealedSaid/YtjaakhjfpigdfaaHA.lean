import Derived.Test.YtjaakhjfpigdfaaFD
/-! Frames: which are the same (the reference's). -/
namespace Go.Proofs.Ytjaakhjfpigdfaa
open Go.RowKit
set_option linter.unusedVariables false
set_option linter.unusedSimpArgs false
set_option maxRecDepth 100000 in
set_option maxHeartbeats 8000000 in
theorem rfsame_any (f g : Fr) (u v : Value) (w : World) (hu : EqN w f.body u) (hv : EqN w g.body v) : Calls Try.prog 66 #[frV f u, frV g v] w fun e w' => e = .returned (.bool (sameF f g)) ∧ Below w.heap.size w w' := by
  obtain ⟨fr, ep, me, you, n, body, all, more⟩ := f
  obtain ⟨fr', ep', me', you', n', body', all', more'⟩ := g
  have h3 : (me == me') = ((me.toNat : Int) == (me'.toNat : Int)) := by rw [Bool.eq_iff_iff]; simp [← BitVec.toNat_inj]; omega
  have h4 : (you == you') = ((you.toNat : Int) == (you'.toNat : Int)) := by rw [Bool.eq_iff_iff]; simp [← BitVec.toNat_inj]; omega
  have h7 : (more == more') = ((more.toNat : Int) == (more'.toNat : Int)) := by rw [Bool.eq_iff_iff]; simp [← BitVec.toNat_inj]; omega
  unfold sameF frV
  simp only at hu hv ⊢
  rw [h3, h4, h7]
  obtain ⟨m, hm⟩ : ∃ m : Int, (me.toNat : Int) = m := ⟨_, rfl⟩
  obtain ⟨y, hy⟩ : ∃ m : Int, (you.toNat : Int) = m := ⟨_, rfl⟩
  obtain ⟨o, ho⟩ : ∃ m : Int, (more.toNat : Int) = m := ⟨_, rfl⟩
  obtain ⟨m', hm'⟩ : ∃ m : Int, (me'.toNat : Int) = m := ⟨_, rfl⟩
  obtain ⟨y', hy'⟩ : ∃ m : Int, (you'.toNat : Int) = m := ⟨_, rfl⟩
  obtain ⟨o', ho'⟩ : ∃ m : Int, (more'.toNat : Int) = m := ⟨_, rfl⟩
  rw [hm, hy, ho, hm', hy', ho']
  have e1 := fun X Y : Array Value => conv_EqN ((hu.alloc (.cells X 83)).alloc (.cells Y 83))
  have e2 := fun X Y : Array Value => conv_EqN ((hv.alloc (.cells X 83)).alloc (.cells Y 83))
  have e3 : ((strV body).toList == (strV body').toList) = (body == body') := strV_list body body'
  obtain ⟨S1, hS1⟩ : ∃ S, strV body = S := ⟨_, rfl⟩
  obtain ⟨S2, hS2⟩ : ∃ S, strV body' = S := ⟨_, rfl⟩
  obtain ⟨b8, hb8⟩ : ∃ b, (body == body') = b := ⟨_, rfl⟩
  rw [hS1] at e1 e3
  rw [hS2] at e2 e3
  rw [hb8] at e3 ⊢
  obtain ⟨R, hR⟩ : ∃ R, Value.bool ((fr == fr') && (ep == ep') && (m == m') && (y == y') && (n == n') && (all == all') && (o == o') && b8) = R := ⟨_, rfl⟩
  rw [hR]
  have HR := Lib.hid hR
  clear hm hy ho hm' hy' ho' hb8 h3 h4 h7 hR hS1 hS2
  obtain ⟨Au, nu, cu, rfl⟩ := hu.form
  obtain ⟨Av, nv, cv, rfl⟩ := hv.form
  clear hu hv
  go_enter Try.func66, Try.ntmps66
  go_wp2
  all_goals
    go_ret
    refine ⟨?_, (below_alloc1 _ _).trans ((below_alloc1 _ _).mono (by rw [size_alloc]; omega))⟩
    rw [← HR.out]
    first
      | rfl
      | (simp_all; done)
      | (cases b8 <;> simp_all; done)
      | trace_state
end Go.Proofs.Ytjaakhjfpigdfaa
