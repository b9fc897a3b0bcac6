import Derived.Test.YtinkcffkhbaleaaK
import Derived.Test.YtinkcffkhbaleaaChecked
import Derived.Test.YtinkcffkhbaleaaWEqStruct
/-! Spans: which may be, numbers cut to what a catalogue holds. -/
namespace Go.Proofs.Ytinkcffkhbaleaa
open Go.RowKit
set_option linter.unusedVariables false
set_option linter.unusedSimpArgs false

/-- A span that may be. -/
def okS (lo hi : Int) : Prop := 0 ≤ lo ∧ lo < hi ∧ hi ≤ 1073741825
instance (lo hi : Int) : Decidable (okS lo hi) := by unfold okS; infer_instance
/-- A span as a value. -/
abbrev spanV (lo hi : Int) : Value := .agg #[.int .i64 lo, .int .i64 hi]
def clipZ (n : Int) : Int := if n < 0 then 0 else if 1073741824 < n then 1073741824 else n
theorem clip_range (n : Int) : 0 ≤ clipZ n ∧ clipZ n ≤ 1073741824 := by unfold clipZ; split <;> (try split) <;> omega

theorem clip_any (n : Int) (w : World) (h0 : -9223372036854775808 ≤ n) (h1 : n ≤ 9223372036854775807) : Calls Try.prog 25 #[.int .i64 n] w fun e w' => e = .returned (.int .i64 (clipZ n)) ∧ w = w' := by
  rcases Int.lt_or_le n 0 with hn | hn
  · have e : clipZ n = 0 := by unfold clipZ; rw [if_pos hn]
    rw [e]
    go_enter Try.func25, Try.ntmps25
    go_wp2
    go_ret
    exact ⟨rfl, rfl⟩
  · rcases Int.lt_or_le 1073741824 n with hm | hm
    · have e : clipZ n = 1073741824 := by unfold clipZ; rw [if_neg (by omega), if_pos hm]
      rw [e]
      go_enter Try.func25, Try.ntmps25
      go_wp2
      go_ret
      exact ⟨rfl, rfl⟩
    · have e : clipZ n = n := by unfold clipZ; rw [if_neg (by omega), if_neg (by omega)]
      rw [e]
      have hz : n = 0 ∨ 0 < n := by omega
      clear hn
      rcases hz with rfl | hz
      all_goals
        go_enter Try.func25, Try.ntmps25
        go_wp2
        go_ret
        exact ⟨rfl, rfl⟩
theorem rclip_any (n : Int) (w : World) (h0 : -9223372036854775808 ≤ n) (h1 : n ≤ 9223372036854775807) : Calls Try.prog 27 #[.int .i64 n] w fun e w' => e = .returned (.int .i64 (clipZ n)) ∧ w = w' := by
  rcases Int.lt_or_le n 0 with hn | hn
  · have e : clipZ n = 0 := by unfold clipZ; rw [if_pos hn]
    rw [e]
    go_enter Try.func27, Try.ntmps27
    go_wp2
    go_ret
    exact ⟨rfl, rfl⟩
  · rcases Int.lt_or_le 1073741824 n with hm | hm
    · have e : clipZ n = 1073741824 := by unfold clipZ; rw [if_neg (by omega), if_pos hm]
      rw [e]
      go_enter Try.func27, Try.ntmps27
      go_wp2
      go_ret
      exact ⟨rfl, rfl⟩
    · have e : clipZ n = n := by unfold clipZ; rw [if_neg (by omega), if_neg (by omega)]
      rw [e]
      have hz : n = 0 ∨ 0 < n := by omega
      clear hn
      rcases hz with rfl | hz
      all_goals
        go_enter Try.func27, Try.ntmps27
        go_wp2
        go_ret
        exact ⟨rfl, rfl⟩
theorem may_ok (lo hi : Int) (w : World) (h : okS lo hi) : Calls Try.prog 26 #[spanV lo hi] w fun e w' => e = .returned (.bool true) ∧ w.alloc (.cells #[.int .i64 lo, .int .i64 hi] 23) = w' := by
  obtain ⟨a, b, c⟩ := h
  have c' : decide (hi ≤ 1073741825) = true := by simpa using c
  go_enter Try.func26, Try.ntmps26
  go_wp2
  go_ret
  exact ⟨rfl, rfl⟩
theorem may_no (lo hi : Int) (w : World) (h : ¬ okS lo hi) : Calls Try.prog 26 #[spanV lo hi] w fun e w' => e = .returned (.bool false) ∧ w.alloc (.cells #[.int .i64 lo, .int .i64 hi] 23) = w' := by
  rcases Int.lt_or_le lo 0 with a | a
  · go_enter Try.func26, Try.ntmps26
    go_wp2
    go_ret
    exact ⟨rfl, rfl⟩
  · rcases Int.lt_or_le lo hi with b | b
    · have c : 1073741825 < hi := by unfold okS at h; omega
      have c' : decide (hi ≤ 1073741825) = false := by simpa using c
      go_enter Try.func26, Try.ntmps26
      go_wp2
      go_ret
      exact ⟨rfl, rfl⟩
    · go_enter Try.func26, Try.ntmps26
      go_wp2
      go_ret
      exact ⟨rfl, rfl⟩
/-- What is said of a span. -/
def saidS (lo hi : Int) : Int := if okS lo hi then 0 else 210
theorem check_any (lo hi : Int) (w : World) : Calls Try.prog 11 #[spanV lo hi] w fun e w' => e = .returned (.int .i64 (saidS lo hi)) ∧ (w.alloc (.cells #[.int .i64 lo, .int .i64 hi] 23)).alloc (.cells #[.int .i64 lo, .int .i64 hi] 23) = w' := by
  by_cases h : okS lo hi
  · rw [show saidS lo hi = 0 by simp [saidS, h]]
    have H := Lib.hid h; clear h
    go_enter Try.func11, Try.ntmps11
    go_wp2_with (go_at_call 26; refine (may_ok lo hi _ H.out).mono ?_; rintro e w' ⟨rfl, rfl⟩)
    go_ret
    exact ⟨rfl, rfl⟩
  · rw [show saidS lo hi = 210 by simp [saidS, h]]
    have H := Lib.hid h; clear h
    go_enter Try.func11, Try.ntmps11
    go_wp2_with (go_at_call 26; refine (may_no lo hi _ H.out).mono ?_; rintro e w' ⟨rfl, rfl⟩)
    go_ret
    exact ⟨rfl, rfl⟩
theorem rcheck_any (lo hi : Int) (w : World) : Calls Try.prog 12 #[spanV lo hi] w fun e w' => e = .returned (.int .i64 (saidS lo hi)) ∧ w.alloc (.cells #[.int .i64 lo, .int .i64 hi] 23) = w' := by
  by_cases h : okS lo hi
  · rw [show saidS lo hi = 0 by simp [saidS, h]]
    obtain ⟨a, b, c⟩ := h
    have c' : decide (1073741825 < hi) = false := by simpa using c
    go_enter Try.func12, Try.ntmps12
    go_wp2
    go_ret
    exact ⟨rfl, rfl⟩
  · rw [show saidS lo hi = 210 by simp [saidS, h]]
    rcases Int.lt_or_le lo 0 with a | a
    · go_enter Try.func12, Try.ntmps12
      go_wp2
      go_ret
      exact ⟨rfl, rfl⟩
    · rcases Int.lt_or_le lo hi with b | b
      · have c : 1073741825 < hi := by unfold okS at h; omega
        have c' : decide (1073741825 < hi) = true := by simpa using c
        go_enter Try.func12, Try.ntmps12
        go_wp2
        go_ret
        exact ⟨rfl, rfl⟩
      · go_enter Try.func12, Try.ntmps12
        go_wp2
        go_ret
        exact ⟨rfl, rfl⟩
end Go.Proofs.Ytinkcffkhbaleaa
