import Derived.Test.YtecaiaobbjddeaaH
import Derived.Test.YtecaiaobbjddeaaO
/-! word.Word where there is no number. -/
namespace Go.Proofs.Ytecaiaobbjddeaa
open Go.RowKit
set_option linter.unusedVariables false
set_option linter.unusedSimpArgs false
theorem word_no (A : Option Addr) (len cap : Nat) (n o : Int) (w : World) (h : ¬ (n = 8 ∨ n = 16 ∨ n = 32 ∨ n = 64)) : Calls Try.prog 23 #[.slice A len cap, .int .i64 n, .int .i64 o] w fun e w' => e = .returned (.tuple #[.int .u64 0, .int .i64 10]) ∧ w = w' := by
  have H := Lib.hid h
  clear h
  go_enter Try.func23, Try.ntmps23
  go_wp2_with (go_at_call 33; refine (way_no n o _ H.out).mono ?_; rintro e w' ⟨rfl, rfl⟩)
  go_ret2
  exact ⟨rfl, rfl⟩
theorem word_order (A : Option Addr) (len cap : Nat) (n o : Int) (w : World) (h : n = 8 ∨ n = 16 ∨ n = 32 ∨ n = 64) (ho : ¬ (o = 1 ∨ o = 2)) : Calls Try.prog 23 #[.slice A len cap, .int .i64 n, .int .i64 o] w fun e w' => e = .returned (.tuple #[.int .u64 0, .int .i64 1]) ∧ w = w' := by
  have H := Lib.hid (And.intro h ho)
  clear h ho
  go_enter Try.func23, Try.ntmps23
  go_wp2_with (go_at_call 33; refine (way_order n o _ H.out.1 H.out.2).mono ?_; rintro e w' ⟨rfl, rfl⟩)
  go_ret2
  exact ⟨rfl, rfl⟩
theorem word_short (A : Option Addr) (len cap n : Nat) (bits o : Int) (w : World) (hn : bits = 8 ∧ n = 1 ∨ bits = 16 ∧ n = 2 ∨ bits = 32 ∧ n = 4 ∨ bits = 64 ∧ n = 8) (ho : o = 1 ∨ o = 2) (hl : len < n) :
    Calls Try.prog 23 #[.slice A len cap, .int .i64 bits, .int .i64 o] w fun e w' => e = .returned (.tuple #[.int .u64 0, .int .i64 11]) ∧ w = w' := by
  have hbits : bits = 8 ∨ bits = 16 ∨ bits = 32 ∨ bits = 64 := by omega
  have hq : bits.tdiv 8 = (n : Int) := by rcases hn with ⟨rfl, rfl⟩ | ⟨rfl, rfl⟩ | ⟨rfl, rfl⟩ | ⟨rfl, rfl⟩ <;> decide
  have c1 : (len : Int) < (n : Int) := by omega
  have hn8 : n ≤ 8 := by omega
  have Hbits := Lib.hid hbits
  have Ho := Lib.hid ho
  have b0 : -9223372036854775808 ≤ bits := by omega
  have b1 : bits ≤ 64 := by omega
  clear hn ho hbits
  go_enter Try.func23, Try.ntmps23
  go_wp2_with (go_at_call 33; refine (way_ok bits o _ Hbits.out Ho.out).mono ?_; rintro e w' ⟨rfl, rfl⟩)
  go_ret2
  exact ⟨rfl, rfl⟩
end Go.Proofs.Ytecaiaobbjddeaa
