import Derived.Test.YtjaakhjfpigdfaaX2
/-! What reading a digest's text gives (plain). -/
namespace Go.Proofs.Ytjaakhjfpigdfaa
open Go.RowKit
set_option linter.unusedVariables false
set_option linter.unusedSimpArgs false
def nibOf (c : UInt8) : Int := firstIdx hexS c
theorem nib_hexc (n : Nat) (hn : n < 16) : nibOf (hexc n) = n := by
  have h : ∀ n < 16, nibOf (hexc n) = n := by decide +kernel
  exact h n hn
theorem nib_range (c : UInt8) : -1 ≤ nibOf c ∧ nibOf c < 16 := by
  have h : ∀ n < 256, -1 ≤ nibOf (UInt8.ofNat n) ∧ nibOf (UInt8.ofNat n) < 16 := by decide +kernel
  have := h c.toNat c.toNat_lt
  simpa using this
/-- The byte that two of a text's letters make. -/
def pairB (l : List UInt8) (j : Nat) : BitVec 8 := BitVec.ofNat 8 ((nibOf (l.getD (2 * j) 0)).toNat * 16 + (nibOf (l.getD (2 * j + 1) 0)).toNat)
def okText (l : List UInt8) : Bool := l.length == 64 && (List.range 64).all fun k => decide (0 ≤ nibOf (l.getD k 0))
def pairsL (l : List UInt8) (n : Nat) : By := (List.range n).map (pairB l)
theorem text_at (d : By) : ∀ j, j < d.length → (textL d).getD (2 * j) 0 = hexc ((d.getD j 0).toNat / 16) ∧ (textL d).getD (2 * j + 1) 0 = hexc ((d.getD j 0).toNat % 16) := by
  induction d with
  | nil => intro j hj; simp at hj
  | cons x d ih =>
    intro j hj
    have e : textL (x :: d) = hexc (x.toNat / 16) :: hexc (x.toNat % 16) :: textL d := by simp [textL]
    rw [e]
    match j, hj with
    | 0, _ => exact ⟨rfl, rfl⟩
    | j + 1, hj =>
      have := ih j (by simpa using hj)
      rw [show 2 * (j + 1) = 2 * j + 2 by omega, show 2 * j + 2 + 1 = 2 * j + 1 + 2 by omega]
      simpa using this
theorem okText_text (d : By) (hd : d.length = 32) : okText (textL d) = true := by
  unfold okText
  rw [textL_len, hd]
  simp only [Bool.and_eq_true, List.all_eq_true, List.mem_range, decide_eq_true_eq]
  refine ⟨rfl, fun k hk => ?_⟩
  have h := text_at d (k / 2) (by omega)
  have hx := (d.getD (k / 2) 0).isLt
  rcases Nat.mod_two_eq_zero_or_one k with h2 | h2
  · have e : 2 * (k / 2) = k := by omega
    rw [e] at h; rw [h.1, nib_hexc _ (by omega)]; omega
  · have e : 2 * (k / 2) + 1 = k := by omega
    rw [e] at h; rw [h.2, nib_hexc _ (by omega)]; omega
theorem pairs_text (d : By) (hd : d.length = 32) : pairsL (textL d) 32 = d := by
  apply List.ext_getElem (by simp [pairsL, hd])
  intro j h1 h2
  have h := text_at d j h2
  have hx := (d.getD j 0).isLt
  have e : d.getD j 0 = d[j] := by rw [List.getD_eq_getElem?_getD, List.getElem?_eq_getElem h2]; rfl
  rw [show (pairsL (textL d) 32)[j] = pairB (textL d) j by simp [pairsL]]
  unfold pairB
  rw [h.1, h.2, nib_hexc _ (by omega), nib_hexc _ (by omega), e]
  apply BitVec.eq_of_toNat_eq
  rw [e] at hx
  simp
  omega
end Go.Proofs.Ytjaakhjfpigdfaa
