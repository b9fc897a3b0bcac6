import Derived.Test.YtjaakhjfpigdfaaFP
import Derived.Test.YtjaakhjfpigdfaaR3
/-! Frames: which may be, which are the same. -/
namespace Go.Proofs.Ytjaakhjfpigdfaa
open Go.RowKit
set_option linter.unusedVariables false
set_option linter.unusedSimpArgs false
/-- A frame as a value. -/
def frV (f : Fr) (bv : Value) : Value := .agg #[.int .i64 f.fr, .int .i64 f.ep, .int .u64 (f.me.toNat : Int), .int .u64 (f.you.toNat : Int), .int .i64 f.n, bv, .int .i64 f.all, .int .u64 (f.more.toNat : Int)]
theorem number94 (n : Int) (w : World) : Calls Try.prog 94 #[.int .i64 n] w fun e w' => e = .returned (.bool (okN n)) ∧ w = w' := by
  unfold okN
  by_cases h : 0 ≤ n
  · rw [decide_eq_true h, Bool.true_and]
    go_enter Try.func94, Try.ntmps94
    go_wp2
    go_ret
    exact ⟨rfl, rfl⟩
  · rw [decide_eq_false h, Bool.false_and]
    go_enter Try.func94, Try.ntmps94
    go_wp2
    go_ret
    exact ⟨rfl, rfl⟩
set_option maxRecDepth 100000 in
set_option maxHeartbeats 4000000 in
theorem fcheck_any (f : Fr) (A : Option Addr) (c : Nat) (w : World) (hl : f.body.length ≤ c) : Calls Try.prog 63 #[frV f (.slice A f.body.length c)] w fun e w' => e = .returned (.int .i64 (if okF f = true then 0 else 180)) ∧ Below w.heap.size w w' := by
  have hok := okF_iff f
  obtain ⟨fr, ep, me, you, n, body, all, more⟩ := f
  unfold frV
  simp only at hok ⊢
  have bw := Lib.hid (below_alloc1 w (.cells #[.int .i64 fr, .int .i64 ep, .int .u64 (me.toNat : Int), .int .u64 (you.toNat : Int), .int .i64 n, .slice A body.length c, .int .i64 all, .int .u64 (more.toNat : Int)] 83))
  obtain ⟨m, hm⟩ : ∃ m, me.toNat = m := ⟨_, rfl⟩
  obtain ⟨y, hy⟩ : ∃ y, you.toNat = y := ⟨_, rfl⟩
  obtain ⟨o, ho⟩ : ∃ o, more.toNat = o := ⟨_, rfl⟩
  obtain ⟨L, hL⟩ : ∃ L, body.length = L := ⟨_, rfl⟩
  have N1 := Lib.hid (number94 n)
  have N2 := Lib.hid (number94 all)
  rw [hm, hy, ho, hL] at bw ⊢
  rw [hm, hL] at hok
  obtain ⟨B, hB⟩ : ∃ B, okF ⟨fr, ep, me, you, n, body, all, more⟩ = B := ⟨_, rfl⟩
  rw [hB] at hok ⊢
  clear hB hm hy ho hL hl
  have HOK := Lib.hid hok
  clear hok
  obtain ⟨R, hR⟩ : ∃ R : Value, Value.int .i64 (if B = true then 0 else 180) = R := ⟨_, rfl⟩
  rw [hR]
  have HR := Lib.hid hR
  clear hR
  go_enter Try.func63, Try.ntmps63
  go_wp2_with (first | (go_at_call 94; refine (number94 _ _).mono ?_; rintro e w' ⟨rfl, rfl⟩) | fail)
  all_goals
    go_ret
    refine ⟨?_, below_alloc1 _ _⟩
    have hh := HOK.out
    have e1 := okN_iff n
    have e2 := okN_iff all
    have e0 := okN_iff ep
    rw [← HR.out]
    by_cases hB : B = true
    · have h3 := hh.1 hB
      rw [if_pos hB]
      first
        | rfl
        | (exfalso; simp_all; done)
        | (exfalso; simp_all; omega)
    · rw [if_neg hB]
      first
        | rfl
        | (exfalso; apply hB; apply hh.2; simp_all; done)
        | (exfalso; apply hB; apply hh.2; simp_all; omega)
end Go.Proofs.Ytjaakhjfpigdfaa
