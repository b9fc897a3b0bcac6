import Derived.Test.YtjaakhjfpigdfaaFB
import Derived.Test.YtjaakhjfpigdfaaD5
/-! Frames: which are the same. -/
namespace Go.Proofs.Ytjaakhjfpigdfaa
open Go.RowKit
set_option linter.unusedVariables false
set_option linter.unusedSimpArgs false
def sameF (f g : Fr) : Bool := (f.fr == g.fr) && (f.ep == g.ep) && (f.me == g.me) && (f.you == g.you) && (f.n == g.n) && (f.all == g.all) && (f.more == g.more) && (f.body == g.body)
theorem sameF_iff (f g : Fr) : sameF f g = true ↔ f = g := by
  obtain ⟨fr, ep, me, you, n, body, all, more⟩ := f
  obtain ⟨fr', ep', me', you', n', body', all', more'⟩ := g
  unfold sameF
  simp only [Bool.and_eq_true, beq_iff_eq, Fr.mk.injEq, and_assoc]
  constructor
  · rintro ⟨h1, h2, h3, h4, h5, h6, h7, h8⟩
    exact ⟨h1, h2, h3, h4, h5, h8, h6, h7⟩
  · rintro ⟨h1, h2, h3, h4, h5, h8, h6, h7⟩
    exact ⟨h1, h2, h3, h4, h5, h6, h7, h8⟩
theorem equal95 (p q : By) (u v : Value) (w : World) (hp : EqN w p u) (hq : EqN w q v) : Calls Try.prog 95 #[u, v] w fun e w' => e = .returned (.bool (p == q)) ∧ w = w' := by
  have e1 := conv_EqN hp
  have e2 := conv_EqN hq
  have e3 : ((strV p).toList == (strV q).toList) = (p == q) := strV_list p q
  obtain ⟨S1, hS1⟩ : ∃ S, strV p = S := ⟨_, rfl⟩
  obtain ⟨S2, hS2⟩ : ∃ S, strV q = S := ⟨_, rfl⟩
  rw [hS1] at e1 e3
  rw [hS2] at e2 e3
  obtain ⟨B, hB⟩ : ∃ B, (p == q) = B := ⟨_, rfl⟩
  rw [hB] at e3 ⊢
  have H3 := Lib.hid e3
  clear hS1 hS2 hB hp hq e3
  go_enter Try.func95, Try.ntmps95
  go_wp2
  go_ret
  exact ⟨by rw [← H3.out]; rfl, rfl⟩
set_option maxRecDepth 100000 in
set_option maxHeartbeats 8000000 in
theorem fsame_any (f g : Fr) (u v : Value) (w : World) (hu : EqN w f.body u) (hv : EqN w g.body v) : Calls Try.prog 65 #[frV f u, frV g v] w fun e w' => e = .returned (.bool (sameF f g)) ∧ Below w.heap.size w w' := by
  obtain ⟨fr, ep, me, you, n, body, all, more⟩ := f
  obtain ⟨fr', ep', me', you', n', body', all', more'⟩ := g
  have h3 : (me == me') = ((me.toNat : Int) == (me'.toNat : Int)) := by rw [Bool.eq_iff_iff]; simp [← BitVec.toNat_inj]; omega
  have h4 : (you == you') = ((you.toNat : Int) == (you'.toNat : Int)) := by rw [Bool.eq_iff_iff]; simp [← BitVec.toNat_inj]; omega
  have h7 : (more == more') = ((more.toNat : Int) == (more'.toNat : Int)) := by rw [Bool.eq_iff_iff]; simp [← BitVec.toNat_inj]; omega
  unfold sameF frV
  simp only at hu hv ⊢
  rw [h3, h4, h7]
  obtain ⟨m, hm⟩ : ∃ m : Int, (me.toNat : Int) = m := ⟨_, rfl⟩
  obtain ⟨y, hy⟩ : ∃ m : Int, (you.toNat : Int) = m := ⟨_, rfl⟩
  obtain ⟨o, ho⟩ : ∃ m : Int, (more.toNat : Int) = m := ⟨_, rfl⟩
  obtain ⟨m', hm'⟩ : ∃ m : Int, (me'.toNat : Int) = m := ⟨_, rfl⟩
  obtain ⟨y', hy'⟩ : ∃ m : Int, (you'.toNat : Int) = m := ⟨_, rfl⟩
  obtain ⟨o', ho'⟩ : ∃ m : Int, (more'.toNat : Int) = m := ⟨_, rfl⟩
  rw [hm, hy, ho, hm', hy', ho']
  obtain ⟨b8, hb8⟩ : ∃ b, (body == body') = b := ⟨_, rfl⟩
  have E := Lib.hid (fun (w' : World) (hb : Below w.heap.size w w') => equal95 body body' u v w' (hu.below hb) (hv.below hb))
  rw [hb8] at E ⊢
  obtain ⟨R, hR⟩ : ∃ R, Value.bool ((fr == fr') && (ep == ep') && (m == m') && (y == y') && (n == n') && (all == all') && (o == o') && b8) = R := ⟨_, rfl⟩
  rw [hR]
  have HR := Lib.hid hR
  clear hm hy ho hm' hy' ho' hb8 hu hv h3 h4 h7 hR
  go_enter Try.func65, Try.ntmps65
  go_wp2_with (first | (go_at_call 95; refine (E.out _ ((below_alloc1 _ _).trans ((below_alloc1 _ _).mono (by rw [size_alloc]; omega)))).mono ?_; rintro e w' ⟨rfl, rfl⟩) | fail)
  all_goals
    go_ret
    refine ⟨?_, (below_alloc1 _ _).trans ((below_alloc1 _ _).mono (by rw [size_alloc]; omega))⟩
    rw [← HR.out]
    first
      | rfl
      | (simp_all; done)
      | trace_state
end Go.Proofs.Ytjaakhjfpigdfaa
