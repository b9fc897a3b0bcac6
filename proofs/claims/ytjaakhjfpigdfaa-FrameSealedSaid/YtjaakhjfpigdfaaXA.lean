import Derived.Test.YtjaakhjfpigdfaaR3
import Derived.Laws.StandIn
/-! strings.IndexByte. -/
namespace Go.Proofs.Ytjaakhjfpigdfaa
open Go.RowKit
set_option linter.unusedVariables false
set_option linter.unusedSimpArgs false
theorem run_idx (s : ByteArray) (c : Int) (w : World) : (callFunc 117 #[.string s, .int .u8 c]).run Try.prog w = .ok (.value (.int .i64 (firstIdx s c.toNat.toUInt8))) w := by
  rw [run_callFunc_indexByte (fn := Try.f117) Try.func117 (by kernel_rfl) (by kernel_rfl) (by rfl) (by rfl), run_indexByte_string]
  rfl
set_option maxRecDepth 100000 in
theorem idx_in (s : ByteArray) (c : Int) (w : World) : Calls Try.prog 101 #[.string s, .int .u8 c] w fun e w' => e = .returned (.int .i64 (firstIdx s c.toNat.toUInt8)) ∧ w = w' := by
  have hx := run_idx s c
  generalize firstIdx s c.toNat.toUInt8 = r at hx ⊢
  go_enter Try.func101, Try.ntmps101
  go_wp2
  go_ret
  exact ⟨rfl, rfl⟩
set_option maxRecDepth 100000 in
theorem idx_any (s : ByteArray) (c : Int) (w : World) : Calls Try.prog 81 #[.string s, .int .u8 c] w fun e w' => e = .returned (.int .i64 (firstIdx s c.toNat.toUInt8)) ∧ w = w' := by
  have hx := Lib.hid (idx_in s c w)
  generalize firstIdx s c.toNat.toUInt8 = r at hx ⊢
  go_enter Try.func81, Try.ntmps81
  go_wp2_with (first | (go_at_call 101; refine hx.out.mono ?_; rintro e w' ⟨rfl, rfl⟩) | fail)
  go_ret
  exact ⟨rfl, rfl⟩
end Go.Proofs.Ytjaakhjfpigdfaa
/-! What reading a digest's text gives (plain). -/
namespace Go.Proofs.Ytjaakhjfpigdfaa
open Go.RowKit
set_option linter.unusedVariables false
set_option linter.unusedSimpArgs false
def nibOf (c : UInt8) : Int := firstIdx hexS c
theorem nib_hexc (n : Nat) (hn : n < 16) : nibOf (hexc n) = n := by
  have h : ∀ n < 16, nibOf (hexc n) = n := by decide +kernel
  exact h n hn
theorem nib_range (c : UInt8) : -1 ≤ nibOf c ∧ nibOf c < 16 := by
  have h : ∀ n < 256, -1 ≤ nibOf (UInt8.ofNat n) ∧ nibOf (UInt8.ofNat n) < 16 := by decide +kernel
  have := h c.toNat c.toNat_lt
  simpa using this
/-- The byte that two of a text's letters make. -/
def pairB (l : List UInt8) (j : Nat) : BitVec 8 := BitVec.ofNat 8 ((nibOf (l.getD (2 * j) 0)).toNat * 16 + (nibOf (l.getD (2 * j + 1) 0)).toNat)
def okText (l : List UInt8) : Bool := l.length == 64 && (List.range 64).all fun k => decide (0 ≤ nibOf (l.getD k 0))
def pairsL (l : List UInt8) (n : Nat) : By := (List.range n).map (pairB l)
theorem text_at (d : By) : ∀ j, j < d.length → (textL d).getD (2 * j) 0 = hexc ((d.getD j 0).toNat / 16) ∧ (textL d).getD (2 * j + 1) 0 = hexc ((d.getD j 0).toNat % 16) := by
  induction d with
  | nil => intro j hj; simp at hj
  | cons x d ih =>
    intro j hj
    have e : textL (x :: d) = hexc (x.toNat / 16) :: hexc (x.toNat % 16) :: textL d := by simp [textL]
    rw [e]
    match j, hj with
    | 0, _ => exact ⟨rfl, rfl⟩
    | j + 1, hj =>
      have := ih j (by simpa using hj)
      rw [show 2 * (j + 1) = 2 * j + 2 by omega, show 2 * j + 2 + 1 = 2 * j + 1 + 2 by omega]
      simpa using this
theorem okText_text (d : By) (hd : d.length = 32) : okText (textL d) = true := by
  unfold okText
  rw [textL_len, hd]
  simp only [Bool.and_eq_true, List.all_eq_true, List.mem_range, decide_eq_true_eq]
  refine ⟨rfl, fun k hk => ?_⟩
  have h := text_at d (k / 2) (by omega)
  have hx := (d.getD (k / 2) 0).isLt
  rcases Nat.mod_two_eq_zero_or_one k with h2 | h2
  · have e : 2 * (k / 2) = k := by omega
    rw [e] at h; rw [h.1, nib_hexc _ (by omega)]; omega
  · have e : 2 * (k / 2) + 1 = k := by omega
    rw [e] at h; rw [h.2, nib_hexc _ (by omega)]; omega
theorem pairs_text (d : By) (hd : d.length = 32) : pairsL (textL d) 32 = d := by
  apply List.ext_getElem (by simp [pairsL, hd])
  intro j h1 h2
  have h := text_at d j h2
  have hx := (d.getD j 0).isLt
  have e : d.getD j 0 = d[j] := by rw [List.getD_eq_getElem?_getD, List.getElem?_eq_getElem h2]; rfl
  rw [show (pairsL (textL d) 32)[j] = pairB (textL d) j by simp [pairsL]]
  unfold pairB
  rw [h.1, h.2, nib_hexc _ (by omega), nib_hexc _ (by omega), e]
  apply BitVec.eq_of_toNat_eq
  rw [e] at hx
  simp
  omega
end Go.Proofs.Ytjaakhjfpigdfaa
/-! Reading a text, letter by letter (plain). -/
namespace Go.Proofs.Ytjaakhjfpigdfaa
open Go.RowKit
set_option linter.unusedVariables false
set_option linter.unusedSimpArgs false
/-- What reading gives. -/
def readD (l : List UInt8) : By := if okText l = true then pairsL l 32 else List.replicate 32 0
def readE (l : List UInt8) : Int := if okText l = true then 0 else 1
theorem readD_len (l : List UInt8) : (readD l).length = 32 := by unfold readD; split <;> simp [pairsL]
theorem map_range_set {α : Type} (n i : Nat) (f g : Nat → α) (x : α) (hx : g i = x) (hf : ∀ j, j ≠ i → f j = g j) : ((List.range n).map f).set i x = (List.range n).map g := by
  apply List.ext_getElem (by simp)
  intro j h1 h2
  simp only [List.getElem_set, List.getElem_map, List.getElem_range]
  by_cases e : i = j
  · subst e; simp [hx]
  · rw [if_neg e]; exact hf j (fun h => e h.symm)
theorem map_range_get (n i : Nat) (f : Nat → BitVec 8) (h : i < n) : ((List.range n).map f).getD i 0 = f i := by
  rw [List.getD_eq_getElem?_getD, List.getElem?_eq_getElem (by simpa using h)]; simp
def fillP (l : List UInt8) (i : Nat) : By := (List.range 32).map fun j => if j < i then pairB l j else 0
theorem fillP_len (l : List UInt8) (i : Nat) : (fillP l i).length = 32 := by simp [fillP]
theorem fillP_zero (l : List UInt8) : fillP l 0 = List.replicate 32 0 := by
  unfold fillP
  refine List.eq_replicate_iff.2 ⟨by simp, fun b hb => ?_⟩
  obtain ⟨j, _, rfl⟩ := List.mem_map.1 hb
  simp
theorem fillP_all (l : List UInt8) : fillP l 32 = pairsL l 32 := by
  unfold fillP pairsL
  apply List.map_congr_left
  intro j hj
  rw [if_pos (List.mem_range.1 hj)]
theorem fillP_step (l : List UInt8) (i : Nat) : (fillP l i).set i (pairB l i) = fillP l (i + 1) := by
  unfold fillP
  refine map_range_set 32 i _ _ _ (by rw [if_pos (by omega)]) fun j hj => ?_
  by_cases h : j < i
  · rw [if_pos h, if_pos (by omega)]
  · rw [if_neg h, if_neg (by omega)]
theorem ok_of (l : List UInt8) (h : l.length = 64) (hn : ∀ k, k < 64 → 0 ≤ nibOf (l.getD k 0)) : okText l = true := by
  unfold okText
  simp only [Bool.and_eq_true, List.all_eq_true, List.mem_range, decide_eq_true_eq]
  exact ⟨by rw [h]; rfl, hn⟩
theorem not_ok (l : List UInt8) (h : okText l = true) : l.length = 64 ∧ ∀ k, k < 64 → 0 ≤ nibOf (l.getD k 0) := by
  unfold okText at h
  simp only [Bool.and_eq_true, List.all_eq_true, List.mem_range, decide_eq_true_eq] at h
  exact ⟨by simpa using h.1, h.2⟩
theorem ok_no (l : List UInt8) (k : Nat) (hk : k < 64) (h : nibOf (l.getD k 0) < 0) : okText l = false := by
  cases hq : okText l with
  | false => rfl
  | true => have := (not_ok l hq).2 k hk; omega
theorem ok_len (l : List UInt8) (h : l.length ≠ 64) : okText l = false := by
  cases hq : okText l with
  | false => rfl
  | true => exact absurd (not_ok l hq).1 h
/-- Where a letter is found, 16 if nowhere. -/
def nibN (c : UInt8) : Nat := if 0 ≤ nibOf c then (nibOf c).toNat else 16
theorem nibN_le (c : UInt8) : nibN c ≤ 16 := by have := nib_range c; unfold nibN; split <;> omega
theorem nibN_16 (c : UInt8) : nibN c = 16 ↔ nibOf c < 0 := by have := nib_range c; unfold nibN; split <;> omega
theorem nibN_lt (c : UInt8) (h : nibN c < 16) : (nibOf c).toNat = nibN c := by
  unfold nibN at h ⊢
  by_cases h0 : 0 ≤ nibOf c
  · rw [if_pos h0]
  · rw [if_neg h0] at h; omega
theorem nib_test (c : UInt8) (j : Nat) (hj : j ≤ nibN c) (h16 : j < 16) : (hexc j ≠ c) ↔ j < nibN c := by
  have h : ∀ n < 256, ∀ j < 16, j ≤ nibN (UInt8.ofNat n) → ((hexc j ≠ UInt8.ofNat n) ↔ j < nibN (UInt8.ofNat n)) := by decide +kernel
  have := h c.toNat c.toNat_lt j h16
  simp at this
  simpa using this hj
/-- Half-way bytes: k letters were read. -/
def halfL (l : List UInt8) (k : Nat) : By := (List.range 32).map fun j => if 2 * j + 1 < k then pairB l j else if 2 * j < k then BitVec.ofNat 8 (nibN (l.getD (2 * j) 0)) else 0
theorem halfL_len (l : List UInt8) (i : Nat) : (halfL l i).length = 32 := by simp [halfL]
theorem halfL_zero (l : List UInt8) : halfL l 0 = List.replicate 32 0 := by
  unfold halfL
  refine List.eq_replicate_iff.2 ⟨by simp, fun b hb => ?_⟩
  obtain ⟨j, _, rfl⟩ := List.mem_map.1 hb
  simp
theorem halfL_all (l : List UInt8) : halfL l 64 = pairsL l 32 := by
  unfold halfL pairsL
  apply List.map_congr_left
  intro j hj
  have := List.mem_range.1 hj
  rw [if_pos (by omega)]
theorem halfL_step (l : List UInt8) (k : Nat) (hk : k < 64) (hn : ∀ j, j ≤ k → nibN (l.getD j 0) < 16) : (halfL l k).set (k / 2) (BitVec.ofNat 8 (((halfL l k).getD (k / 2) 0).toNat * 16 % 256 + nibN (l.getD k 0))) = halfL l (k + 1) := by
  have hg : (halfL l k).getD (k / 2) 0 = if 2 * (k / 2) + 1 < k then pairB l (k / 2) else if 2 * (k / 2) < k then BitVec.ofNat 8 (nibN (l.getD (2 * (k / 2)) 0)) else 0 := map_range_get 32 (k / 2) _ (by omega)
  rw [if_neg (by omega)] at hg
  refine map_range_set 32 (k / 2) _ _ _ ?_ fun j hj => ?_
  · rw [hg]
    rcases Nat.mod_two_eq_zero_or_one k with h2 | h2
    · rw [if_neg (show ¬ 2 * (k / 2) + 1 < k + 1 by omega), if_pos (show 2 * (k / 2) < k + 1 by omega), if_neg (show ¬ 2 * (k / 2) < k by omega), show 2 * (k / 2) = k by omega]
      simp
    · rw [if_pos (show 2 * (k / 2) + 1 < k + 1 by omega), if_pos (show 2 * (k / 2) < k by omega)]
      unfold pairB
      rw [show 2 * (k / 2) + 1 = k by omega]
      have h1 := hn (2 * (k / 2)) (by omega)
      have h3 := hn k (Nat.le_refl _)
      have e1 := nibN_lt _ h1
      have e3 := nibN_lt _ h3
      rw [e1, e3]
      apply BitVec.eq_of_toNat_eq
      simp
      try omega
  · by_cases h : 2 * j + 1 < k
    · rw [if_pos h, if_pos (show 2 * j + 1 < k + 1 by omega)]
    · rw [if_neg h, if_neg (show ¬ 2 * j + 1 < k + 1 by omega), if_neg (show ¬ 2 * j < k by omega), if_neg (show ¬ 2 * j < k + 1 by omega)]
theorem ba_at (s : ByteArray) (k : Nat) (h : k < s.data.toList.length) : s[k]? = some (s.data.toList.getD k 0) := by
  have h1 : k < s.size := by simpa using h
  rw [List.getD_eq_getElem?_getD, List.getElem?_eq_getElem h]
  simp [h1]
  rfl
set_option maxRecDepth 100000 in
theorem str_at (s : ByteArray) (k : Nat) (c : UInt8) (h : s[k]? = some c) (w : World) : (Instr.index 9 (.string s) (.int .i64 (k : Int))).run Try.prog w = .ok (.int .u8 (c.toNat : Int)) w := by
  simp [Instr.index, asIntOf, run_underlying Try.underlying9, h]
theorem or_nib (a b : Nat) (ha : a < 16) (hb : b < 16) : bits .or .i64 ((a : Int) * 16) (b : Int) = ((a * 16 + b : Nat) : Int) := by
  have h : ∀ a < 16, ∀ b < 16, bits .or .i64 (((a : Nat) : Int) * 16) ((b : Nat) : Int) = ((a * 16 + b : Nat) : Int) := by decide +kernel
  exact h a ha b hb
end Go.Proofs.Ytjaakhjfpigdfaa
