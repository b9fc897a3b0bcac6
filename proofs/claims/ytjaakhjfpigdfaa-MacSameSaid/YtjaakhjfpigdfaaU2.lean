import Derived.Test.YtjaakhjfpigdfaaR3
/-! A hash's `is`; Sum of a hash. -/
namespace Go.Proofs.Ytjaakhjfpigdfaa
open Go.RowKit
set_option linter.unusedVariables false
set_option linter.unusedSimpArgs false
set_option maxRecDepth 100000 in
theorem is_nil (w : World) : Calls Try.prog 84 #[.pointer none] w fun e w' => e = .returned (.bool false) ∧ w = w' := by
  go_enter Try.func84, Try.ntmps84
  go_wp2
  go_ret
  exact ⟨rfl, rfl⟩
theorem HashAt.made {w : World} {g : Nat} {l : By} (h : HashAt w g l) : w.cell? ⟨g, 10, none⟩ = some (.bool true) := by
  obtain ⟨lv, hc, _⟩ := h
  rw [Joins.cell_of_block hc]
  exact hash_made _ (stF_len l _) lv l.length
end Go.Proofs.Ytjaakhjfpigdfaa
