import Derived.Test.YtjaakhjfpigdfaaFB
/-! Frames: Meet, cut, eight. -/
namespace Go.Proofs.Ytjaakhjfpigdfaa
open Go.RowKit
set_option linter.unusedVariables false
set_option linter.unusedSimpArgs false
theorem cut59_any (l : By) (v : Value) (w : World) (h : EqN w l v) : Calls Try.prog 59 #[v] w fun e w' => ∃ u, e = .returned u ∧ (∀ w0, EqN w0 l v → EqN w0 (l.take 3000) u) ∧ w = w' := by
  obtain ⟨A, c, rfl, hl, hr, hn⟩ := h
  have hlm := hr.1
  by_cases hlt : 3000 < l.length
  · have e : (l.take 3000).length = 3000 := by rw [List.length_take]; omega
    have HE := Lib.hid (show ∀ w0, EqN w0 l (.slice A l.length c) → EqN w0 (l.take 3000) (.slice A 3000 c) from fun w0 h0 => by
      obtain ⟨A', c', h1, hl', hr', hn'⟩ := h0
      simp only [Value.slice.injEq] at h1
      obtain ⟨rfl, _, rfl⟩ := h1
      exact ⟨A, c, by rw [e], by omega, hr'.take 3000, hn'⟩)
    clear e hr hn
    go_enter Try.func59, Try.ntmps59
    go_wp2
    go_ret
    exact ⟨_, rfl, HE.out, rfl⟩
  · have e : l.take 3000 = l := List.take_of_length_le (by omega)
    have HE := Lib.hid (show ∀ w0, EqN w0 l (.slice A l.length c) → EqN w0 (l.take 3000) (.slice A l.length c) by rw [e]; exact fun _ h => h)
    clear e hr hn
    go_enter Try.func59, Try.ntmps59
    go_wp2
    go_ret
    exact ⟨_, rfl, HE.out, rfl⟩
def lightF (f : Fr) : Fr := if f.body.length ≤ 524288 then { f with body := f.body.take 3000 } else f
set_option maxRecDepth 100000 in
set_option maxHeartbeats 8000000 in
theorem light_any (f : Fr) (u : Value) (w : World) (hu : EqN w f.body u) : Calls Try.prog 60 #[frV f u] w fun e w' => ∃ u', e = .returned (frV (lightF f) u') ∧ EqN w' (lightF f).body u' ∧ Below w.heap.size w w' := by
  obtain ⟨A, c, rfl, hl, hr, hn⟩ := hu
  have hlm := hr.1
  obtain ⟨fr, ep, me, you, n, body, all, more⟩ := f
  unfold lightF frV
  simp only at hl hr hn hlm ⊢
  have HE := Lib.hid (show EqN w body (.slice A body.length c) from ⟨A, c, rfl, hl, hr, hn⟩)
  obtain ⟨L, hL⟩ : ∃ L, body.length = L := ⟨_, rfl⟩
  rw [hL] at HE hl hlm ⊢
  by_cases hlt : L ≤ 524288
  · rw [if_pos hlt]
    clear hL hr hn
    go_enter Try.func60, Try.ntmps60
    go_wp2_with (first | (go_at_call 59; refine (cut59_any body _ _ ((HE.out.below (below_alloc1 _ _)).below (below_alloc1 _ _))).mono ?_; rintro e w' ⟨u', rfl, hE, rfl⟩; have HE2 := Lib.hid (hE w HE.out); obtain ⟨A2, c2, hu2, _, _, _⟩ := HE2.out; obtain ⟨n2, hn2⟩ : ∃ n, (body.take 3000).length = n := ⟨_, rfl⟩; rw [hn2] at hu2; subst hu2; clear hE hn2) | fail)
    have hf := (below_alloc1 w (.cells #[.int .i64 fr, .int .i64 ep, .int .u64 (me.toNat : Int), .int .u64 (you.toNat : Int), .int .i64 n, .slice A2 n2 c2, .int .i64 all, .int .u64 (more.toNat : Int)] 83))
    exact bodyPost_ret (v := .agg #[.int .i64 fr, .int .i64 ep, .int .u64 (me.toNat : Int), .int .u64 (you.toNat : Int), .int .i64 n, .slice A2 n2 c2, .int .i64 all, .int .u64 (more.toNat : Int)]) (by simp [results, Try.results60, go_sem]) rfl ⟨_, rfl, (HE2.out.below (below_alloc1 _ _)).below (below_alloc1 _ _), hf.trans ((below_alloc1 _ _).mono (by rw [size_alloc]; omega))⟩
  · rw [if_neg hlt]
    clear hL hr hn
    go_enter Try.func60, Try.ntmps60
    go_wp2
    exact bodyPost_ret (v := .agg #[.int .i64 fr, .int .i64 ep, .int .u64 (me.toNat : Int), .int .u64 (you.toNat : Int), .int .i64 n, .slice A L c, .int .i64 all, .int .u64 (more.toNat : Int)]) (by simp [results, Try.results60, go_sem]) rfl ⟨_, rfl, (HE.out.below (below_alloc1 _ _)).below (below_alloc1 _ _), (below_alloc1 _ _).trans ((below_alloc1 _ _).mono (by rw [size_alloc]; omega))⟩
set_option maxRecDepth 100000 in
set_option maxHeartbeats 8000000 in
theorem meet_any (me peer : BitVec 64) (vow : Int) (f : Fr) (u : Value) (w : World) : Calls Try.prog 70 #[.int .u64 (me.toNat : Int), .int .u64 (peer.toNat : Int), .int .i64 vow, frV f u] w fun e w' => e = .returned (.agg #[.bool (decide (f.me.toNat < peer.toNat)), .bool (decide (peer.toNat < f.me.toNat)), .bool (f.you == me), .int .i64 (max vow f.ep), .bool (decide (peer.toNat ≤ f.me.toNat) && (f.you == me) && decide (vow ≤ f.ep))]) ∧ Below w.heap.size w w' := by
  obtain ⟨fr, ep, fme, you, n, body, all, more⟩ := f
  have h4 : (you == me) = ((you.toNat : Int) == (me.toNat : Int)) := by rw [Bool.eq_iff_iff]; simp [← BitVec.toNat_inj]; omega
  unfold frV
  simp only
  rw [h4]
  clear h4
  go_enter Try.func70, Try.ntmps70
  go_wp2
  all_goals
    refine bodyPost_ret (v := _) (by simp [results, Try.results70, go_sem]; rfl) rfl ⟨?_, ((below_alloc1 _ _).trans ((below_alloc1 _ _).mono (by rw [size_alloc]; omega))).trans ((below_alloc1 _ _).mono (by rw [size_alloc, size_alloc]; omega))⟩
    have hd : decide (fme.toNat < peer.toNat) = !decide (peer.toNat ≤ fme.toNat) := by rw [Bool.eq_iff_iff]; simp
    first
      | (rw [show max vow ep = ep by omega]; done)
      | (rw [show max vow ep = vow by omega]; done)
      | (rw [show max vow ep = ep by omega]; simp_all; done)
      | (rw [show max vow ep = vow by omega]; simp_all; done)
      | trace_state
set_option maxRecDepth 100000 in
set_option maxHeartbeats 8000000 in
theorem rmeet_any (me peer : BitVec 64) (vow : Int) (f : Fr) (u : Value) (w : World) : Calls Try.prog 71 #[.int .u64 (me.toNat : Int), .int .u64 (peer.toNat : Int), .int .i64 vow, frV f u] w fun e w' => e = .returned (.agg #[.bool (decide (f.me.toNat < peer.toNat)), .bool (decide (peer.toNat < f.me.toNat)), .bool (f.you == me), .int .i64 (max vow f.ep), .bool (decide (peer.toNat ≤ f.me.toNat) && (f.you == me) && decide (vow ≤ f.ep))]) ∧ Below w.heap.size w w' := by
  obtain ⟨fr, ep, fme, you, n, body, all, more⟩ := f
  have h4 : (you == me) = ((you.toNat : Int) == (me.toNat : Int)) := by rw [Bool.eq_iff_iff]; simp [← BitVec.toNat_inj]; omega
  unfold frV
  simp only
  rw [h4]
  clear h4
  go_enter Try.func71, Try.ntmps71
  go_wp2
  all_goals
    refine bodyPost_ret (v := _) (by simp [results, Try.results71, go_sem]; rfl) rfl ⟨?_, ((below_alloc1 _ _).trans ((below_alloc1 _ _).mono (by rw [size_alloc]; omega)))⟩
    have hd : decide (fme.toNat < peer.toNat) = !decide (peer.toNat ≤ fme.toNat) := by rw [Bool.eq_iff_iff]; simp
    first
      | (rw [show max vow ep = ep by omega]; done)
      | (rw [show max vow ep = vow by omega]; done)
      | (rw [show max vow ep = ep by omega]; simp_all; done)
      | (rw [show max vow ep = vow by omega]; simp_all; done)
      | trace_state
end Go.Proofs.Ytjaakhjfpigdfaa
