import Derived.Test.YtjaakhjfpigdfaaK
namespace Go.Proofs.Ytjaakhjfpigdfaa
open Go.RowKit
theorem shr_nat (x : BitVec 32) (n : Nat) : (x.toNat : Int) / 2 ^ n = ((x >>> n).toNat : Int) := by
  rw [BitVec.toNat_ushiftRight, Nat.shiftRight_eq_div_pow]; push_cast; rfl
theorem shl_nat (x : BitVec 32) (n : Nat) : (x.toNat : Int) * 2 ^ n % 4294967296 = ((x <<< n).toNat : Int) := by
  rw [BitVec.toNat_shiftLeft, Nat.shiftLeft_eq, Int.natCast_emod, Int.natCast_mul, Int.natCast_pow]; rfl
theorem rot_or (x : BitVec 32) (n : Nat) (h : n ≤ 31) : x >>> n ||| x <<< (32 - n) = x.rotateRight n := by
  rw [BitVec.rotateRight_def, Nat.mod_eq_of_lt (by omega)]
theorem rot_val (x : BitVec 32) (n : Nat) (h : n ≤ 31) : bits .or .u32 ((x.toNat : Int) / 2 ^ n) ((x.toNat : Int) * 2 ^ (32 - n) % 4294967296) = ((x.rotateRight n).toNat : Int) := by
  rw [shr_nat, shl_nat, or32, rot_or x n h]
theorem rot_one (y : BitVec 32) : (y.toNat : Int) / (2 : Int) + (y.toNat : Int) % (2 : Int) * 2147483648 = ((y.rotateRight 1).toNat : Int) := by
  rw [← rot_or y 1 (by omega), BitVec.toNat_or, BitVec.toNat_ushiftRight, BitVec.toNat_shiftLeft, Nat.shiftRight_eq_div_pow, Nat.shiftLeft_eq]
  have hy := y.isLt
  have e : y.toNat * 2 ^ (32 - 1) % 2 ^ 32 = 2 ^ 31 * (y.toNat % 2) := by omega
  rw [e, Nat.or_comm, ← Nat.two_pow_add_eq_or_of_lt (show y.toNat / 2 ^ 1 < 2 ^ 31 by omega)]
  omega
theorem rot_add (y : BitVec 32) (k : Nat) (h : k + 1 ≤ 31) : (y.rotateRight 1).rotateRight k = y.rotateRight (k + 1) := by
  apply BitVec.eq_of_getLsbD_eq
  intro i hi
  simp only [BitVec.getLsbD_rotateRight]
  rw [Nat.mod_eq_of_lt (show k < 32 by omega), Nat.mod_eq_of_lt (show k + 1 < 32 by omega), Nat.mod_eq_of_lt (show 1 < 32 by omega)]
  by_cases h1 : i < 32 - k
  · by_cases h2 : i < 32 - (k + 1)
    · simp [h1, show i < 31 - k by omega, show k + i < 31 by omega, show 1 + (k + i) = k + 1 + i by omega]
    · simp [h1, show ¬ i < 31 - k by omega, show ¬ k + i < 31 by omega, show k + i - 31 = i - (31 - k) by omega, hi, show k + i < 32 by omega]
  · simp [h1, show ¬ i < 31 - k by omega, hi, show i - (32 - k) < 31 by omega, show 1 + (i - (32 - k)) = i - (31 - k) by omega]
theorem move_one (y : BitVec 32) : (y.toNat : Int) / (2 : Int) = ((y >>> 1).toNat : Int) := by
  have := shr_nat y 1; simpa using this
theorem move_add (y : BitVec 32) (k : Nat) : (y >>> 1) >>> k = y >>> (k + 1) := by
  rw [← BitVec.shiftRight_add, Nat.add_comm]
/-- A number turned right, moved right. -/
def rot (x : BitVec 32) (n : Nat) : BitVec 32 := x.rotateRight n
def shf (x : BitVec 32) (n : Nat) : BitVec 32 := x >>> n
theorem wrap_add32 (a b : BitVec 32) : IntKind.u32.wrap ((a.toNat : Int) + (b.toNat : Int)) = ((a + b).toNat : Int) := by
  rw [IntKind.wrap_u32, BitVec.toNat_add, Int.natCast_emod, Int.natCast_add]; rfl
end Go.Proofs.Ytjaakhjfpigdfaa
