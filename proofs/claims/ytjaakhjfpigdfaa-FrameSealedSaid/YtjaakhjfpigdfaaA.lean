import Derived.Test.YtjaakhjfpigdfaaChecked
import Derived.Test.YtjaakhjfpigdfaaM
import Derived.Deep.LoopGhost
/-! right, the document's right and moved; Start, constants. -/
namespace Go.Proofs.Ytjaakhjfpigdfaa
open Go.RowKit
set_option linter.unusedVariables false
set_option linter.unusedSimpArgs false
set_option maxRecDepth 100000 in
set_option maxHeartbeats 4000000 in
theorem right_any (x : BitVec 32) (n : Nat) (h1 : 1 ≤ n) (h2 : n ≤ 31) (w : World) : Calls Try.prog 76 #[.int .u32 x.toNat, .int .u64 n] w fun e w' => e = .returned (.int .u32 (rot x n).toNat) ∧ w = w' := by
  have hr := Lib.hid (rot_val x n h2)
  go_enter Try.func76, Try.ntmps76
  go_wp2
  go_ret
  exact ⟨ret_int hr.out, rfl⟩
set_option maxRecDepth 100000 in
set_option maxHeartbeats 4000000 in
theorem rright_any0 (x : BitVec 32) (n : Nat) (h : n ≤ 31) (w : World) : Calls Try.prog 77 #[.int .u32 x.toNat, .int .i64 n] w fun e w' => e = .returned (.int .u32 (x.rotateRight n).toNat) ∧ w = w' := by
  go_enter Try.func77, Try.ntmps77
  go_wp2
  go_loopw [0, 1] (fun v i wr => ∃ (k : Nat) (y : BitVec 32), k ≤ n ∧ i = .int .i64 k ∧ v = .int .u32 y.toNat ∧ y.rotateRight k = x.rotateRight n ∧ wr = w) (fun _ i _ => (intOf i).toNat)
  case atStart => exact ⟨n, x, Nat.le_refl _, rfl, rfl, rfl, rfl⟩
  case round =>
    obtain ⟨k, y, hk, rfl, rfl, hy, rfl⟩ := hrel
    have hyl := y.isLt
    have HY := Lib.hid hy
    clear hy
    by_cases h0 : 0 < k
    · obtain ⟨j, rfl⟩ : ∃ j, k = j + 1 := ⟨k - 1, by omega⟩
      have HR := Lib.hid (rot_one y)
      have HA := Lib.hid (rot_add y j (by omega))
      go_wp2
      go_roundw
      case rel => exact ⟨j, y.rotateRight 1, by omega, by go_num, by rw [HR.out], by rw [HA.out]; exact HY.out, by first | trivial | rfl⟩
      case measure => first | (simp [intOf]; done) | (simp [intOf]; omega)
    · obtain rfl : k = 0 := by omega
      have e : y = x.rotateRight n := by have := HY.out; rw [← this, ← rot_or y 0 (by omega)]; simp
      subst e
      go_wp2
      go_ret
      exact ⟨rfl, rfl⟩
set_option maxRecDepth 100000 in
set_option maxHeartbeats 4000000 in
theorem rmoved_any0 (x : BitVec 32) (n : Nat) (h : n ≤ 31) (w : World) : Calls Try.prog 78 #[.int .u32 x.toNat, .int .i64 n] w fun e w' => e = .returned (.int .u32 (x >>> n).toNat) ∧ w = w' := by
  go_enter Try.func78, Try.ntmps78
  go_wp2
  go_loopw [0, 1] (fun v i wr => ∃ (k : Nat) (y : BitVec 32), k ≤ n ∧ i = .int .i64 k ∧ v = .int .u32 y.toNat ∧ y >>> k = x >>> n ∧ wr = w) (fun _ i _ => (intOf i).toNat)
  case atStart => exact ⟨n, x, Nat.le_refl _, rfl, rfl, rfl, rfl⟩
  case round =>
    obtain ⟨k, y, hk, rfl, rfl, hy, rfl⟩ := hrel
    have hyl := y.isLt
    have HY := Lib.hid hy
    clear hy
    by_cases h0 : 0 < k
    · obtain ⟨j, rfl⟩ : ∃ j, k = j + 1 := ⟨k - 1, by omega⟩
      have HR := Lib.hid (move_one y)
      have HA := Lib.hid (move_add y j)
      go_wp2
      go_roundw
      case rel => exact ⟨j, y >>> 1, by omega, by go_num, by rw [HR.out], by rw [HA.out]; exact HY.out, by first | trivial | rfl⟩
      case measure => first | (simp [intOf]; done) | (simp [intOf]; omega)
    · obtain rfl : k = 0 := by omega
      have e : y = x >>> n := by have := HY.out; rw [← this]; simp
      subst e
      go_wp2
      go_ret
      exact ⟨rfl, rfl⟩
theorem rright_any (x : BitVec 32) (n : Nat) (h : n ≤ 31) (w : World) : Calls Try.prog 77 #[.int .u32 x.toNat, .int .i64 n] w fun e w' => e = .returned (.int .u32 (rot x n).toNat) ∧ w = w' := rright_any0 x n h w
theorem rmoved_any (x : BitVec 32) (n : Nat) (h : n ≤ 31) (w : World) : Calls Try.prog 78 #[.int .u32 x.toNat, .int .i64 n] w fun e w' => e = .returned (.int .u32 (shf x n).toNat) ∧ w = w' := rmoved_any0 x n h w
end Go.Proofs.Ytjaakhjfpigdfaa
