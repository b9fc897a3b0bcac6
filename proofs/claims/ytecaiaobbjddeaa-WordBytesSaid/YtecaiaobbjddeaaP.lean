import Derived.Test.YtecaiaobbjddeaaO
/-! Any few bytes are those of a number. -/
namespace Go.Proofs.Ytecaiaobbjddeaa
open Go.RowKit
set_option linter.unusedVariables false

/-- The number whose byte j (the lowest first) is f j, for j below n. -/
def assemble (f : Nat → BitVec 8) : Nat → Nat
  | 0 => 0
  | n + 1 => assemble f n + (f n).toNat * 2 ^ (8 * n)
theorem assemble_lt (f : Nat → BitVec 8) : ∀ n, assemble f n < 2 ^ (8 * n)
  | 0 => by simp [assemble]
  | n + 1 => by
    have h := assemble_lt f n
    have hf := (f n).isLt
    have e : (2 : Nat) ^ (8 * (n + 1)) = 256 * 2 ^ (8 * n) := by rw [show (256 : Nat) = 2 ^ 8 by decide, ← Nat.pow_add]; congr 1; omega
    have : ((f n).toNat + 1) * 2 ^ (8 * n) ≤ 256 * 2 ^ (8 * n) := Nat.mul_le_mul_right _ (by omega)
    rw [Nat.add_mul] at this
    rw [assemble, e]; omega
theorem assemble_byte (f : Nat → BitVec 8) : ∀ n j, j < n → assemble f n / 2 ^ (8 * j) % 256 = (f j).toNat
  | 0, j, h => by omega
  | n + 1, j, h => by
    have hp : 0 < 2 ^ (8 * j) := Nat.pow_pos (by omega)
    have hf := (f n).isLt
    rw [assemble]
    rcases Nat.lt_or_ge j n with hj | hj
    · have e : (f n).toNat * 2 ^ (8 * n) = 2 ^ (8 * j) * (256 * ((f n).toNat * 2 ^ (8 * (n - j - 1)))) := by
        rw [show (2 : Nat) ^ (8 * n) = 2 ^ (8 * j) * (256 * 2 ^ (8 * (n - j - 1))) by rw [show (256 : Nat) = 2 ^ 8 by decide, ← Nat.pow_add, ← Nat.pow_add]; congr 1; omega]
        ac_rfl
      rw [e, Nat.add_mul_div_left _ _ hp, Nat.add_mul_mod_self_left]
      exact assemble_byte f n j hj
    · obtain rfl : j = n := by omega
      rw [Nat.mul_comm, Nat.add_mul_div_left _ _ hp, Nat.div_eq_of_lt (assemble_lt f j)]
      omega
theorem which_which (n : Nat) (o : Int) (i : Nat) (h : i < n) : which n o (which n o i) = i := by
  unfold which
  split <;> omega
theorem which_lt (n : Nat) (o : Int) (i : Nat) (h : i < n) : which n o i < n := by
  unfold which
  split <;> omega
theorem any_bytes (l : List (BitVec 8)) (n : Nat) (o : Int) (hl : l.length = n) (hn : n ≤ 8) : ∃ x : BitVec 64, wordBytes x n o = l := by
  let f : Nat → BitVec 8 := fun j => l.getD (which n o j) 0
  have hlt : assemble f n < 18446744073709551616 := by
    have h1 := assemble_lt f n
    have h2 : 2 ^ (8 * n) ≤ 2 ^ 64 := Nat.pow_le_pow_right (by omega) (by omega)
    have h3 : (2 : Nat) ^ 64 = 18446744073709551616 := by decide
    omega
  refine ⟨BitVec.ofNat 64 (assemble f n), ?_⟩
  apply List.ext_getElem
  · rw [length_wordBytes, hl]
  · intro i h1 h2
    have hi : i < n := by rw [length_wordBytes] at h1; exact h1
    apply BitVec.eq_of_toNat_eq
    simp only [wordBytes, List.getElem_map, List.getElem_range]
    rw [byte_nat, BitVec.toNat_ofNat, show assemble f n % 2 ^ 64 = assemble f n from Nat.mod_eq_of_lt hlt, assemble_byte f n _ (which_lt n o i hi)]
    show (l.getD (which n o (which n o i)) 0).toNat = _
    rw [which_which n o i hi, List.getD_eq_getElem?_getD, List.getElem?_eq_getElem h2]
    rfl
end Go.Proofs.Ytecaiaobbjddeaa
