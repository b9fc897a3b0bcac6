import Derived.Test.YtjaakhjfpigdfaaD
/-! A hash: New, is. -/
namespace Go.Proofs.Ytjaakhjfpigdfaa
open Go.RowKit
set_option linter.unusedVariables false
set_option linter.unusedSimpArgs false
/-- A hash's cells. -/
def hashA (s : List W32) (lv : Value) (n : Nat) : Array Value := U s ++ #[lv, .int .u64 (n : Int), .bool true]
theorem hash_new : hashA startL (.slice none 0 0) 0 = (#[.int .u32 1779033703, .int .u32 3144134277, .int .u32 1013904242, .int .u32 2773480762, .int .u32 1359893119, .int .u32 2600822924, .int .u32 528734635, .int .u32 1541459225, .slice none 0 0, .int .u64 0, .bool true] : Array Value) := by kernel_rfl
theorem hash_made (s : List W32) (h : s.length = 8) (lv : Value) (n : Nat) : (hashA s lv n)[10]? = some (.bool true) := by
  unfold hashA
  rw [Array.getElem?_append_right (by rw [U_size]; omega), U_size, h]; rfl
theorem hash_n (s : List W32) (h : s.length = 8) (lv : Value) (n : Nat) : (hashA s lv n)[9]? = some (.int .u64 (n : Int)) := by
  unfold hashA
  rw [Array.getElem?_append_right (by rw [U_size]; omega), U_size, h]; rfl
theorem hash_left (s : List W32) (h : s.length = 8) (lv : Value) (n : Nat) : (hashA s lv n)[8]? = some lv := by
  unfold hashA
  rw [Array.getElem?_append_right (by rw [U_size]; omega), U_size, h]; rfl
set_option maxRecDepth 100000 in
set_option maxHeartbeats 4000000 in
theorem new_any (w : World) : Calls Try.prog 40 #[] w fun e w' => e = .returned (.pointer (some ⟨w.heap.size + 1, 0, none⟩)) ∧ w'.heap[w.heap.size + 1]? = some (.cells (hashA startL (.slice none 0 0) 0) 60) ∧ Below w.heap.size w w' := by
  have SA := start_any w
  have HV := Lib.hid startL_val
  have HH := Lib.hid hash_new
  rw [startL_val] at SA
  have b0 : Below w.heap.size w (w.alloc (.cells (U startL) 31)) := (Below.refl _ _).alloc (Nat.le_refl _) _
  rw [HV.out] at b0
  replace SA := Lib.hid SA
  go_enter Try.func40, Try.ntmps40
  go_wp2_with (first | (go_at_call 32; refine SA.out.mono ?_; rintro e w' ⟨rfl, rfl⟩) | fail)
  go_ret
  refine ⟨rfl, ?_, b0.alloc b0.size _⟩
  rw [HH.out]
  exact heap_new _ _ _ (by simp)
set_option maxRecDepth 100000 in
set_option maxHeartbeats 4000000 in
theorem is_any (g : Nat) (w : World) (h : w.cell? ⟨g, 10, none⟩ = some (.bool true)) : Calls Try.prog 84 #[.pointer (some ⟨g, 0, none⟩)] w fun e w' => e = .returned (.bool true) ∧ w = w' := by
  go_enter Try.func84, Try.ntmps84
  go_wp2
  go_ret
  exact ⟨rfl, rfl⟩
end Go.Proofs.Ytjaakhjfpigdfaa
