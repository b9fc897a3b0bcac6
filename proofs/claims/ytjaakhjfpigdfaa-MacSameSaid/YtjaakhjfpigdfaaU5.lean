import Derived.Test.YtjaakhjfpigdfaaU4
/-! Copy of nobody. -/
namespace Go.Proofs.Ytjaakhjfpigdfaa
open Go.RowKit
set_option linter.unusedVariables false
set_option linter.unusedSimpArgs false
set_option maxRecDepth 100000 in
theorem hcopy_nil (w : World) : Calls Try.prog 43 #[.pointer none] w fun e w' => e = .returned (.tuple #[.pointer none, .int .i64 4]) ∧ w = w' := by
  have IS := Lib.hid (is_nil w)
  go_enter Try.func43, Try.ntmps43
  go_wp2_with (first | (go_at_call 84; refine IS.out.mono ?_; rintro e w2 ⟨rfl, rfl⟩) | fail)
  exact bodyPost_ret (v := .tuple #[.pointer none, .int .i64 4]) (by simp [results, Try.results43, Act.put]) rfl ⟨rfl, rfl⟩
end Go.Proofs.Ytjaakhjfpigdfaa
