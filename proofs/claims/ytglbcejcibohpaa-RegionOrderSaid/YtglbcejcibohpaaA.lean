import Derived.Test.YtglbcejcibohpaaI2
import Derived.Test.YtglbcejcibohpaaM
import Derived.Test.YtglbcejcibohpaaChecked
import Derived.Deep.LoopGhost
import Derived.OneCell
/-! lies, holds. -/
namespace Go.Proofs.Ytglbcejcibohpaa
open Go.RowKit
set_option linter.unusedVariables false
set_option linter.unusedSimpArgs false
abbrev eV (a n : Int) : Value := .agg #[.int .i64 a, .int .i64 n]
abbrev eO (a n : Int) : Obj := .cells #[.int .i64 a, .int .i64 n] 25
def liesB (b a n : Int) : Bool := decide (liesE b (a, n))
def holdsB (a n c m : Int) : Bool := decide (holdsE (a, n) (c, m))
theorem lies_yes {b a n : Int} (h : 0 ≤ a ∧ 1 ≤ n ∧ a + n ≤ b) : liesB b a n = true := decide_eq_true h
theorem lies_no {b a n : Int} (h : ¬ (0 ≤ a ∧ 1 ≤ n ∧ a + n ≤ b)) : liesB b a n = false := decide_eq_false h
abbrev I64 (x : Int) : Prop := -9223372036854775808 ≤ x ∧ x ≤ 9223372036854775807
theorem lies_any (b a n : Int) (w : World) (hb : 0 ≤ b ∧ b ≤ 4096) (ha : I64 a) (hn : I64 n) : Calls Try.prog 33 #[.int .i64 b, eV a n] w fun e w' => e = .returned (.bool (liesB b a n)) ∧ w.alloc (eO a n) = w' := by
  obtain ⟨b1, b2⟩ := hb
  obtain ⟨a1, a2⟩ := ha
  obtain ⟨n1, n2⟩ := hn
  by_cases h : 0 ≤ a ∧ 1 ≤ n ∧ a + n ≤ b
  · rw [lies_yes h]
    obtain ⟨h1, h2, h3⟩ := h
    have q : decide (a ≤ b - n) = true := by simp; omega
    go_enter Try.func33, Try.ntmps33
    go_wp2
    go_ret
    exact ⟨rfl, rfl⟩
  · rw [lies_no h]
    have hc : a < 0 ∨ (0 ≤ a ∧ n < 1) ∨ (0 ≤ a ∧ 1 ≤ n ∧ b < n) ∨ (0 ≤ a ∧ 1 ≤ n ∧ n ≤ b ∧ b - n < a) := by omega
    clear h
    rcases hc with h | ⟨h1, h⟩ | ⟨h1, h2, h⟩ | ⟨h1, h2, h3, h⟩
    all_goals try (have q : decide (a ≤ b - n) = false := by simp; omega)
    all_goals
      go_enter Try.func33, Try.ntmps33
      go_wp2
      go_ret
      exact ⟨rfl, rfl⟩
theorem rlies_any (b a n : Int) (w : World) (hb : 0 ≤ b ∧ b ≤ 4096) (ha : I64 a) (hn : I64 n) : Calls Try.prog 32 #[.int .i64 b, eV a n] w fun e w' => e = .returned (.bool (liesB b a n)) ∧ w.alloc (eO a n) = w' := by
  obtain ⟨b1, b2⟩ := hb
  obtain ⟨a1, a2⟩ := ha
  obtain ⟨n1, n2⟩ := hn
  by_cases h : 0 ≤ a ∧ 1 ≤ n ∧ a + n ≤ b
  · rw [lies_yes h]
    obtain ⟨h1, h2, h3⟩ := h
    have q : decide (n ≤ b - a) = true := by simp; omega
    go_enter Try.func32, Try.ntmps32
    go_wp2
    go_ret
    exact ⟨rfl, rfl⟩
  · rw [lies_no h]
    have hc : a < 0 ∨ (0 ≤ a ∧ n < 1) ∨ (0 ≤ a ∧ 1 ≤ n ∧ b < a) ∨ (0 ≤ a ∧ 1 ≤ n ∧ a ≤ b ∧ b - a < n) := by omega
    clear h
    rcases hc with h | ⟨h1, h⟩ | ⟨h1, h2, h⟩ | ⟨h1, h2, h3, h⟩
    all_goals try (have q : decide (n ≤ b - a) = false := by simp; omega)
    all_goals
      go_enter Try.func32, Try.ntmps32
      go_wp2
      go_ret
      exact ⟨rfl, rfl⟩
theorem holds_any (a n c m : Int) (w : World) (h1 : 0 ≤ a ∧ a ≤ 4096) (h2 : 0 ≤ n ∧ n ≤ 4096) (h3 : 0 ≤ c ∧ c ≤ 4096) (h4 : 0 ≤ m ∧ m ≤ 4096) : Calls Try.prog 37 #[eV a n, eV c m] w fun e w' => e = .returned (.bool (holdsB a n c m)) ∧ (w.alloc (eO a n)).alloc (eO c m) = w' := by
  obtain ⟨a1, a2⟩ := h1
  obtain ⟨n1, n2⟩ := h2
  obtain ⟨c1, c2⟩ := h3
  obtain ⟨m1, m2⟩ := h4
  by_cases h : a ≤ c ∧ c + m ≤ a + n
  · have e : holdsB a n c m = true := decide_eq_true h
    rw [e]
    obtain ⟨h1, h2⟩ := h
    have q : decide (c + m ≤ a + n) = true := by simp; omega
    clear e
    go_enter Try.func37, Try.ntmps37
    go_wp2
    go_ret
    exact ⟨rfl, rfl⟩
  · have e : holdsB a n c m = false := decide_eq_false h
    rw [e]
    have hc : c < a ∨ (a ≤ c ∧ a + n < c + m) := by omega
    clear h e
    rcases hc with h | ⟨h1, h⟩
    all_goals try (have q : decide (c + m ≤ a + n) = false := by simp; omega)
    all_goals
      go_enter Try.func37, Try.ntmps37
      go_wp2
      go_ret
      exact ⟨rfl, rfl⟩
end Go.Proofs.Ytglbcejcibohpaa
