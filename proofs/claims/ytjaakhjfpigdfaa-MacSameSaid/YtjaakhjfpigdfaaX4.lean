import Derived.Test.YtjaakhjfpigdfaaR5
/-! Blocks, and the sum of all: the plain law. -/
namespace Go.Proofs.Ytjaakhjfpigdfaa
open Go.RowKit
set_option linter.unusedVariables false
set_option linter.unusedSimpArgs false
theorem pad_full (n : Nat) : (n + (padL n).length) % 64 = 0 := by
  unfold padL
  rw [List.length_append, headB_len, tailB_len]
  unfold zN
  omega
theorem flat64 (bs : List By) (h : ∀ j, j < bs.length → (bs.getD j []).length = 64) : ∀ i, i ≤ bs.length → (bs.take i).flatten.length = 64 * i
  | 0, _ => by simp
  | i + 1, hi => by
    rw [flat_take bs i (by omega), List.length_append, flat64 bs h i (by omega), h i (by omega)]
    omega
/-- The state behind the first i blocks. -/
def stB (bs : List By) (i : Nat) : List W32 := stF (bs.take i).flatten i
theorem stB_succ (bs : List By) (h : ∀ j, j < bs.length → (bs.getD j []).length = 64) (i : Nat) (hi : i < bs.length) : stB bs (i + 1) = stepL (stB bs i) (bs.getD i []) := by
  have hl := flat64 bs h i (by omega)
  have hb := h i hi
  unfold stB
  rw [flat_take bs i hi]
  show stepL _ _ = _
  rw [stF_app _ _ i (by omega)]
  congr 1
  unfold blk
  rw [← hl, List.drop_left, ← hb, List.take_length]
theorem stB_all (bs : List By) : stB bs bs.length = stF bs.flatten bs.length := by unfold stB; rw [List.take_length]
/-- What goes on behind the blocks. -/
theorem stB_start (bs : List By) (h : ∀ j, j < bs.length → (bs.getD j []).length = 64) (R : By) : stB bs bs.length = stF (bs.flatten ++ R) bs.length := by
  have hl := flat64 bs h bs.length (Nat.le_refl _)
  rw [List.take_length] at hl
  rw [stB_all, stF_app _ _ _ (by omega)]
theorem blk_rest (F R : By) (n j : Nat) (hF : F.length = 64 * n) : blk (F ++ R) (n + j) = blk R j := by
  unfold blk
  rw [show 64 * (n + j) = F.length + 64 * j by omega, List.drop_append, show F.drop (F.length + 64 * j) = [] from List.drop_eq_nil_of_le (by omega)]
  simp
theorem sum_blocks (bs : List By) (h : ∀ j, j < bs.length → (bs.getD j []).length = 64) (b : By) (N k : Nat) (hN : N = 64 * bs.length + b.length) (hk : 64 * k = (b ++ padL N).length) : digL (stF (bs.flatten ++ (b ++ padL N)) (bs.length + k)) = sumL (bs.flatten ++ b) := by
  have hl := flat64 bs h bs.length (Nat.le_refl _)
  rw [List.take_length] at hl
  unfold sumL stL
  rw [show (bs.flatten ++ b).length = N by rw [List.length_append, hl]; omega, List.append_assoc]
  congr 2
  unfold nb
  rw [List.length_append, hl, ← hk]
  omega
theorem rest_full (b : By) (m N : Nat) (hN : N = 64 * m + b.length) : (b ++ padL N).length % 64 = 0 := by
  have := pad_full N
  rw [List.length_append]
  omega
end Go.Proofs.Ytjaakhjfpigdfaa
