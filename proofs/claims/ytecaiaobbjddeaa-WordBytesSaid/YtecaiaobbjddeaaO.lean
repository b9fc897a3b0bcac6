import Derived.Test.YtecaiaobbjddeaaG
import Derived.Test.YtecaiaobbjddeaaPureWordTurns
/-! For WordBytes: why a width or an order may not be; any bytes are those of a number. -/
namespace Go.Proofs.Ytecaiaobbjddeaa
open Go.RowKit
set_option linter.unusedVariables false
set_option linter.unusedSimpArgs false

def okW (n : Int) : Prop := n = 8 ∨ n = 16 ∨ n = 32 ∨ n = 64
theorem width_no (n : Int) (w : World) (h : ¬ (n = 8 ∨ n = 16 ∨ n = 32 ∨ n = 64)) : Calls Try.prog 30 #[.int .i64 n] w fun e w' => e = .returned (.int .i64 10) ∧ w = w' := by
  have a : (n == 8) = false := by simp; omega
  have b : (n == 16) = false := by simp; omega
  have c : (n == 32) = false := by simp; omega
  have d : (n == 64) = false := by simp; omega
  have H := Lib.hid h
  clear h
  go_enter Try.func30, Try.ntmps30
  go_wp2
  go_ret
  exact ⟨rfl, rfl⟩
theorem way_no (n o : Int) (w : World) (h : ¬ (n = 8 ∨ n = 16 ∨ n = 32 ∨ n = 64)) : Calls Try.prog 33 #[.int .i64 n, .int .i64 o] w fun e w' => e = .returned (.int .i64 10) ∧ w = w' := by
  have H := Lib.hid h
  clear h
  go_enter Try.func33, Try.ntmps33
  go_wp2_with (go_at_call 30; refine (width_no n _ H.out).mono ?_; rintro e w' ⟨rfl, rfl⟩)
  go_ret
  exact ⟨rfl, rfl⟩
theorem way_order (n o : Int) (w : World) (h : n = 8 ∨ n = 16 ∨ n = 32 ∨ n = 64) (ho : ¬ (o = 1 ∨ o = 2)) : Calls Try.prog 33 #[.int .i64 n, .int .i64 o] w fun e w' => e = .returned (.int .i64 1) ∧ w = w' := by
  have a : (o != 1) = true := by simp; omega
  have b : (o != 2) = true := by simp; omega
  have H := Lib.hid h
  have Ho := Lib.hid ho
  clear h ho
  go_enter Try.func33, Try.ntmps33
  go_wp2_with (go_at_call 30; refine (width_ok n _ H.out).mono ?_; rintro e w' ⟨rfl, rfl⟩)
  go_ret
  exact ⟨rfl, rfl⟩
theorem asked_no (n o : Int) (w : World) (h : ¬ (n = 8 ∨ n = 16 ∨ n = 32 ∨ n = 64)) : Calls Try.prog 35 #[.int .i64 n, .int .i64 o] w fun e w' => e = .returned (.int .i64 10) ∧ Below w.heap.size w w' := by
  have W1 := Lib.hid (show PWordTurns.salternref01_Width.f n = some false by unfold PWordTurns.salternref01_Width.f; rw [if_neg (by omega), if_neg (by omega), if_neg (by omega)]; congr 1; simp; omega)
  have H := Lib.hid h
  clear h
  go_enter Try.func35, Try.ntmps35
  go_wp2_with (go_at_call 28; refine (PWordTurns.salternref01_Width.calls n false _ W1.out).mono ?_; rintro e w6 ⟨rfl, ⟨nd3, rfl⟩⟩)
  go_ret
  exact ⟨rfl, rfl, rfl, rfl, Nat.le_refl _, fun _ _ => rfl⟩
theorem asked_order (n o : Int) (w : World) (h : n = 8 ∨ n = 16 ∨ n = 32 ∨ n = 64) (ho : ¬ (o = 1 ∨ o = 2)) : Calls Try.prog 35 #[.int .i64 n, .int .i64 o] w fun e w' => e = .returned (.int .i64 1) ∧ Below w.heap.size w w' := by
  have W1 := Lib.hid (show PWordTurns.salternref01_Width.f n = some true by rcases h with rfl | rfl | rfl | rfl <;> rfl)
  have a : (o != 1) = true := by simp; omega
  have b : (o != 2) = true := by simp; omega
  have H := Lib.hid (And.intro h ho)
  clear h ho
  go_enter Try.func35, Try.ntmps35
  go_wp2_with (go_at_call 28; refine (PWordTurns.salternref01_Width.calls n true _ W1.out).mono ?_; rintro e w6 ⟨rfl, ⟨nd3, rfl⟩⟩)
  go_ret
  exact ⟨rfl, rfl, rfl, rfl, Nat.le_refl _, fun _ _ => rfl⟩
end Go.Proofs.Ytecaiaobbjddeaa
