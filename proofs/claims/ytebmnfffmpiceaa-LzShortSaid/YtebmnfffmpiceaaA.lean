import Derived.Test.YtebmnfffmpiceaaK
import Derived.Test.YtebmnfffmpiceaaM
import Derived.Test.YtebmnfffmpiceaaChecked
/-! Check, Size. -/
namespace Go.Proofs.Ytebmnfffmpiceaa
open Go.RowKit
set_option linter.unusedVariables false
set_option linter.unusedSimpArgs false
abbrev tV (d n : Int) (x : BitVec 8) : Value := .agg #[.int .i64 d, .int .i64 n, .int .u8 x.toNat]
abbrev tO (d n : Int) (x : BitVec 8) : Obj := .cells #[.int .i64 d, .int .i64 n, .int .u8 x.toNat] 38
theorem not_ok {d n : Int} {x : BitVec 8} (h : ¬ okT (d, n, x)) : (d < 0) ∨ (4096 < d) ∨ (1 ≤ d ∧ d ≤ 4096 ∧ n < 4) ∨ (1 ≤ d ∧ d ≤ 4096 ∧ 4 ≤ n ∧ 258 < n) ∨ (1 ≤ d ∧ d ≤ 4096 ∧ 4 ≤ n ∧ n ≤ 258 ∧ x.toNat ≠ 0) ∨ (d = 0 ∧ n < 1) ∨ (d = 0 ∧ 1 < n) := by
  unfold okT at h
  have : x = 0 ↔ x.toNat = 0 := ⟨fun h => by rw [h]; rfl, fun h => BitVec.eq_of_toNat_eq h⟩
  simp only at h
  rw [this] at h
  omega
theorem check_any (d n : Int) (x : BitVec 8) (w : World) : Calls Try.prog 23 #[tV d n x] w fun e w' => e = .returned (.int .i64 (checkT (d, n, x))) ∧ w.alloc (tO d n x) = w' := by
  by_cases h : okT (d, n, x)
  · rw [checkT, if_pos h]
    rcases h with ⟨h1, h2⟩ | ⟨h1, h2, h3, h4, h5⟩
    · simp only at h1 h2
      subst h1 h2
      go_enter Try.func23, Try.ntmps23
      go_wp2
      go_ret
      exact ⟨rfl, rfl⟩
    · simp only at h1 h2 h3 h4 h5
      subst h5
      have hd : (d == 0) = false := by rw [beq_eq_false_iff_ne]; omega
      go_enter Try.func23, Try.ntmps23
      go_wp2
      go_ret
      exact ⟨rfl, rfl⟩
  · rw [checkT, if_neg h]
    have hn := not_ok h
    clear h
    have hd : d ≠ 0 → (d == 0) = false := fun h => by rw [beq_eq_false_iff_ne]; exact h
    have hn1 : n ≠ 1 → (n == 1) = false := fun h => by rw [beq_eq_false_iff_ne]; exact h
    have hx : x.toNat ≠ 0 → ((x.toNat : Int) == 0) = false ∧ ((x.toNat : Int) != 0) = true := fun h => by rw [beq_eq_false_iff_ne, bne_iff_ne]; omega
    rcases hn with h | h | ⟨h1, h2, h⟩ | ⟨h1, h2, h3, h⟩ | ⟨h1, h2, h3, h4, h⟩ | ⟨rfl, h⟩ | ⟨rfl, h⟩
    all_goals try replace hd := hd (by omega)
    all_goals try replace hn1 := hn1 (by omega)
    all_goals try replace hx := hx h
    all_goals
      go_enter Try.func23, Try.ntmps23
      go_wp2
      go_ret
      exact ⟨rfl, rfl⟩
theorem rcheck_any (d n : Int) (x : BitVec 8) (w : World) : Calls Try.prog 18 #[tV d n x] w fun e w' => e = .returned (.int .i64 (checkT (d, n, x))) ∧ w.alloc (tO d n x) = w' := by
  by_cases h : okT (d, n, x)
  · rw [checkT, if_pos h]
    rcases h with ⟨h1, h2⟩ | ⟨h1, h2, h3, h4, h5⟩
    · simp only at h1 h2
      subst h1 h2
      go_enter Try.func18, Try.ntmps18
      go_wp2
      go_ret
      exact ⟨rfl, rfl⟩
    · simp only at h1 h2 h3 h4 h5
      subst h5
      have hd : (d == 0) = false := by rw [beq_eq_false_iff_ne]; omega
      go_enter Try.func18, Try.ntmps18
      go_wp2
      go_ret
      exact ⟨rfl, rfl⟩
  · rw [checkT, if_neg h]
    have hn := not_ok h
    clear h
    have hd : d ≠ 0 → (d == 0) = false := fun h => by rw [beq_eq_false_iff_ne]; exact h
    have hn1 : n ≠ 1 → (n == 1) = false := fun h => by rw [beq_eq_false_iff_ne]; exact h
    have hx : x.toNat ≠ 0 → ((x.toNat : Int) == 0) = false ∧ ((x.toNat : Int) != 0) = true := fun h => by rw [beq_eq_false_iff_ne, bne_iff_ne]; omega
    rcases hn with h | h | ⟨h1, h2, h⟩ | ⟨h1, h2, h3, h⟩ | ⟨h1, h2, h3, h4, h⟩ | ⟨rfl, h⟩ | ⟨rfl, h⟩
    all_goals try replace hd := hd (by omega)
    all_goals try replace hn1 := hn1 (by omega)
    all_goals try replace hx := hx h
    all_goals
      go_enter Try.func18, Try.ntmps18
      go_wp2
      go_ret
      exact ⟨rfl, rfl⟩
end Go.Proofs.Ytebmnfffmpiceaa
