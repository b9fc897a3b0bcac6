import Derived.Test.YtjaakhjfpigdfaaR3
import Derived.Laws.StandIn
/-! strings.IndexByte. -/
namespace Go.Proofs.Ytjaakhjfpigdfaa
open Go.RowKit
set_option linter.unusedVariables false
set_option linter.unusedSimpArgs false
theorem run_idx (s : ByteArray) (c : Int) (w : World) : (callFunc 117 #[.string s, .int .u8 c]).run Try.prog w = .ok (.value (.int .i64 (firstIdx s c.toNat.toUInt8))) w := by
  rw [run_callFunc_indexByte (fn := Try.f117) Try.func117 (by kernel_rfl) (by kernel_rfl) (by rfl) (by rfl), run_indexByte_string]
  rfl
set_option maxRecDepth 100000 in
theorem idx_in (s : ByteArray) (c : Int) (w : World) : Calls Try.prog 101 #[.string s, .int .u8 c] w fun e w' => e = .returned (.int .i64 (firstIdx s c.toNat.toUInt8)) ∧ w = w' := by
  have hx := run_idx s c
  generalize firstIdx s c.toNat.toUInt8 = r at hx ⊢
  go_enter Try.func101, Try.ntmps101
  go_wp2
  go_ret
  exact ⟨rfl, rfl⟩
set_option maxRecDepth 100000 in
theorem idx_any (s : ByteArray) (c : Int) (w : World) : Calls Try.prog 81 #[.string s, .int .u8 c] w fun e w' => e = .returned (.int .i64 (firstIdx s c.toNat.toUInt8)) ∧ w = w' := by
  have hx := Lib.hid (idx_in s c w)
  generalize firstIdx s c.toNat.toUInt8 = r at hx ⊢
  go_enter Try.func81, Try.ntmps81
  go_wp2_with (first | (go_at_call 101; refine hx.out.mono ?_; rintro e w' ⟨rfl, rfl⟩) | fail)
  go_ret
  exact ⟨rfl, rfl⟩
end Go.Proofs.Ytjaakhjfpigdfaa
