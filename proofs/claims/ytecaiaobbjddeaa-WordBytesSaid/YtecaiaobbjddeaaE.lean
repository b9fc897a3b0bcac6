import Derived.Test.YtecaiaobbjddeaaB
import Derived.Test.YtecaiaobbjddeaaPureWordTurns
/-! For WordBack: a varint is read back whatever stands behind; a number turned is turned back. -/
namespace Go.Proofs.Ytecaiaobbjddeaa
open Go.RowKit
set_option linter.unusedVariables false
set_option linter.unusedSimpArgs false

theorem vread_back : ∀ (f y i X : Nat) (t : List (BitVec 8)), 1 ≤ f → y < 128 ^ f → i + f = 10 → (i = 0 ∨ 0 < y) → X + y * 128 ^ i < 18446744073709551616 →
    vread (vlist f y ++ t) i X = (X + y * 128 ^ i, i + (vlist f y).length, 0) := by
  intro f
  induction f with
  | zero => intro y i X t h; omega
  | succ f ih =>
    intro y i X t _ hy hi h0 hX
    by_cases hs : y < 128
    · rw [vlist_small f y hs]
      have hc : (BitVec.ofNat 8 y).toNat = y := by rw [BitVec.toNat_ofNat]; omega
      have h9 : ¬ ((i = 9 ∧ y ≠ 1) ∨ (y = 0 ∧ 0 < i)) := by
        rintro (⟨rfl, h1⟩ | ⟨h1, h2⟩)
        · have e : (128 : Nat) ^ 9 = 9223372036854775808 := by decide
          rw [e] at hX
          omega
        · omega
      show vread (BitVec.ofNat 8 y :: t) i X = _
      rw [vread, hc, if_neg h9, if_pos hs, Nat.mod_eq_of_lt hs]
      simp
    · rw [vlist_big f y hs]
      have hf : 1 ≤ f := by
        rcases Nat.eq_zero_or_pos f with rfl | h
        · simp at hy; omega
        · exact h
      have hc : (BitVec.ofNat 8 (y % 128 + 128)).toNat = y % 128 + 128 := by rw [BitVec.toNat_ofNat]; omega
      have hi9 : i ≠ 9 := by omega
      show vread (BitVec.ofNat 8 (y % 128 + 128) :: (vlist f (y / 128) ++ t)) i X = _
      have e : X + y % 128 * 128 ^ i + y / 128 * 128 ^ (i + 1) = X + y * 128 ^ i := by
        rw [Nat.pow_succ, Nat.mul_comm (128 ^ i) 128, ← Nat.mul_assoc, Nat.add_assoc, ← Nat.add_mul]
        congr 2; omega
      rw [vread, hc, if_neg (by omega), if_neg (by omega), show (y % 128 + 128) % 128 = y % 128 by omega,
        ih (y / 128) (i + 1) _ t hf (by rw [vpow] at hy; omega) (by omega) (.inr (by omega)) (by rw [e]; exact hX), e]
      simp; omega
theorem varint_back (x : Nat) (hx : x < 18446744073709551616) (t : List (BitVec 8)) : vread (vlist 10 x ++ t) 0 0 = (x, (vlist 10 x).length, 0) := by
  have := vread_back 10 x 0 0 t (by omega) (by have : (128 : Nat) ^ 10 = 1180591620717411303424 := by decide
                                               omega) rfl (.inl rfl) (by simpa using hx)
  simpa using this
theorem St_back {n k x y : Nat} (hk : k ≤ n) (h : Pure.St n k x y) : Pure.St n (n - k) y x := by
  obtain ⟨q, r, hx, hr, hq, hy⟩ := h
  refine ⟨r, q, ?_, ?_, hr, hx⟩
  · rw [show n - (n - k) = k by omega]; exact hy
  · rw [show n - (n - k) = k by omega]; exact hq
end Go.Proofs.Ytecaiaobbjddeaa
