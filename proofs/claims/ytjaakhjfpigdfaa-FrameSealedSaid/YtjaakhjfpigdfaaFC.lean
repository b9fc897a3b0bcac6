import Derived.Test.YtjaakhjfpigdfaaFB
/-! Frames: which may be (the reference's). -/
namespace Go.Proofs.Ytjaakhjfpigdfaa
open Go.RowKit
set_option linter.unusedVariables false
set_option linter.unusedSimpArgs false
set_option maxRecDepth 100000 in
set_option maxHeartbeats 8000000 in
theorem rfcheck_any (f : Fr) (A : Option Addr) (c : Nat) (w : World) (hl : f.body.length ≤ c) : Calls Try.prog 64 #[frV f (.slice A f.body.length c)] w fun e w' => e = .returned (.int .i64 (if okF f = true then 0 else 180)) ∧ Below w.heap.size w w' := by
  have hok := okF_iff f
  obtain ⟨fr, ep, me, you, n, body, all, more⟩ := f
  unfold frV
  simp only at hok ⊢
  obtain ⟨m, hm⟩ : ∃ m, me.toNat = m := ⟨_, rfl⟩
  obtain ⟨y, hy⟩ : ∃ y, you.toNat = y := ⟨_, rfl⟩
  obtain ⟨o, ho⟩ : ∃ o, more.toNat = o := ⟨_, rfl⟩
  obtain ⟨L, hL⟩ : ∃ L, body.length = L := ⟨_, rfl⟩
  rw [hm, hy, ho, hL]
  rw [hm, hL] at hok
  obtain ⟨B, hB⟩ : ∃ B, okF ⟨fr, ep, me, you, n, body, all, more⟩ = B := ⟨_, rfl⟩
  rw [hB] at hok ⊢
  clear hB hm hy ho hL hl
  have HOK := Lib.hid hok
  clear hok
  obtain ⟨R, hR⟩ : ∃ R : Value, Value.int .i64 (if B = true then 0 else 180) = R := ⟨_, rfl⟩
  rw [hR]
  have HR := Lib.hid hR
  clear hR
  go_enter Try.func64, Try.ntmps64
  go_wp2
  all_goals
    go_ret
    refine ⟨?_, below_alloc1 _ _⟩
    have hh := HOK.out
    rw [← HR.out]
    by_cases hB : B = true
    · have h3 := hh.1 hB
      rw [if_pos hB]
      first
        | rfl
        | (exfalso; simp_all; done)
        | (exfalso; simp_all; omega)
    · rw [if_neg hB]
      first
        | rfl
        | (exfalso; apply hB; apply hh.2; simp_all; done)
        | (exfalso; apply hB; apply hh.2; simp_all; omega)
end Go.Proofs.Ytjaakhjfpigdfaa
