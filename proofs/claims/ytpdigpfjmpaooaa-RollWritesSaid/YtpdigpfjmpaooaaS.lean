import Derived.Test.YtpdigpfjmpaooaaQ
/-! Bytes in chunks, whole and piece by piece: plain laws. -/
namespace Go.Proofs.Ytpdigpfjmpaooaa
open Go.RowKit
set_option linter.unusedVariables false
set_option linter.unusedSimpArgs false
theorem nextL_app (le mo bi : Int) (r : List (BitVec 8)) : ∀ (l : List (BitVec 8)) (h k : Nat), (nextL le mo bi l h k).2 = true → nextL le mo bi (l ++ r) h k = nextL le mo bi l h k
  | [], h, k, ht => by simp [nextL] at ht
  | x :: l, h, k, ht => by
    rw [List.cons_append]
    unfold nextL at ht ⊢
    split
    · rfl
    · rename_i he
      rw [if_neg he] at ht
      exact nextL_app le mo bi r l _ _ ht
def piecesF (le mo bi : Int) : Nat → List (BitVec 8) → List (List (BitVec 8))
  | 0, _ => []
  | _ + 1, [] => []
  | f + 1, x :: l => (x :: l).take (nextL le mo bi (x :: l) 0 0).1 :: piecesF le mo bi f ((x :: l).drop (nextL le mo bi (x :: l) 0 0).1)
theorem piecesF_more (le mo bi : Int) (hok : okC le mo bi) : ∀ (f g : Nat) (l : List (BitVec 8)), l.length ≤ f → l.length ≤ g → piecesF le mo bi f l = piecesF le mo bi g l
  | 0, 0, _, _, _ => rfl
  | 0, g + 1, l, hf, _ => by
    obtain rfl : l = [] := List.eq_nil_of_length_eq_zero (by omega)
    rfl
  | f + 1, 0, l, _, hg => by
    obtain rfl : l = [] := List.eq_nil_of_length_eq_zero (by omega)
    rfl
  | f + 1, g + 1, [], _, _ => rfl
  | f + 1, g + 1, x :: l, hf, hg => by
    have hp := nextL_pos le mo bi hok (x :: l) (by simp)
    unfold piecesF
    rw [piecesF_more le mo bi hok f g _ (by rw [List.length_drop]; omega) (by rw [List.length_drop]; omega)]
/-- The chunks. -/
def pieces (le mo bi : Int) (l : List (BitVec 8)) : List (List (BitVec 8)) := piecesF le mo bi l.length l
theorem pieces_nil (le mo bi : Int) : pieces le mo bi [] = [] := rfl
theorem pieces_cons (le mo bi : Int) (hok : okC le mo bi) (l : List (BitVec 8)) (hl : 0 < l.length) : pieces le mo bi l = l.take (nextL le mo bi l 0 0).1 :: pieces le mo bi (l.drop (nextL le mo bi l 0 0).1) := by
  cases l with
  | nil => simp at hl
  | cons x l =>
    have hp := nextL_pos le mo bi hok (x :: l) (by simp)
    show (x :: l).take (nextL le mo bi (x :: l) 0 0).1 :: piecesF le mo bi l.length _ = _
    rw [pieces, piecesF_more le mo bi hok l.length _ _ (by rw [List.length_drop]; simp at hp ⊢; omega) (Nat.le_refl _)]
theorem pieces_one (le mo bi : Int) (hok : okC le mo bi) (l : List (BitVec 8)) (h : (nextL le mo bi l 0 0).2 = false) (hl : 0 < l.length) : pieces le mo bi l = [l] := by
  obtain ⟨h1, h2, _⟩ := id hok
  obtain ⟨a, b, c, d, e⟩ := nextL_bounds le mo bi hok l 0 0 (by simp; omega)
  have e0 := e h
  rw [Nat.zero_add] at e0
  rw [pieces_cons le mo bi hok l hl, e0, List.drop_length, List.take_length, pieces_nil]
theorem splitF_false (le mo bi : Int) (hok : okC le mo bi) : ∀ (f : Nat) (l : List (BitVec 8)), l.length ≤ f → (nextL le mo bi (splitF le mo bi f l).2 0 0).2 = false
  | 0, l, hl => by
    obtain rfl : l = [] := List.eq_nil_of_length_eq_zero (by omega)
    simp [splitF, nextL]
  | f + 1, l, hl => by
    unfold splitF
    split
    · rename_i h
      have hp := next_some le mo bi hok l h
      exact splitF_false le mo bi hok f _ (by rw [List.length_drop]; omega)
    · rename_i h
      simpa using h
theorem splitE_false (le mo bi : Int) (hok : okC le mo bi) (l : List (BitVec 8)) : (nextL le mo bi (splitE le mo bi l).2 0 0).2 = false := splitF_false le mo bi hok _ l (Nat.le_refl _)
theorem splitF_pieces (le mo bi : Int) (hok : okC le mo bi) (r : List (BitVec 8)) : ∀ (f : Nat) (l : List (BitVec 8)), pieces le mo bi (l ++ r) = (splitF le mo bi f l).1 ++ pieces le mo bi ((splitF le mo bi f l).2 ++ r)
  | 0, l => by simp [splitF]
  | f + 1, l => by
    unfold splitF
    split
    · rename_i h
      have hp := next_some le mo bi hok l h
      have ha := nextL_app le mo bi r l 0 0 h
      rw [pieces_cons le mo bi hok (l ++ r) (by rw [List.length_append]; omega), ha, List.take_append_of_le_length hp.2, List.drop_append_of_le_length hp.2, splitF_pieces le mo bi hok r f]
      rfl
    · rfl
theorem splitE_pieces (le mo bi : Int) (hok : okC le mo bi) (l r : List (BitVec 8)) : pieces le mo bi (l ++ r) = (splitE le mo bi l).1 ++ pieces le mo bi ((splitE le mo bi l).2 ++ r) := splitF_pieces le mo bi hok r _ l
theorem splitF_le (le mo bi : Int) (hok : okC le mo bi) : ∀ (f : Nat) (l : List (BitVec 8)), (splitF le mo bi f l).1.length + (splitF le mo bi f l).2.length ≤ l.length
  | 0, l => by simp [splitF]
  | f + 1, l => by
    unfold splitF
    split
    · rename_i h
      have hp := next_some le mo bi hok l h
      have := splitF_le le mo bi hok f (l.drop (nextL le mo bi l 0 0).1)
      simp only [List.length_drop, List.length_cons] at this ⊢
      omega
    · simp
theorem splitE_le (le mo bi : Int) (hok : okC le mo bi) (l : List (BitVec 8)) : (splitE le mo bi l).1.length + (splitE le mo bi l).2.length ≤ l.length := splitF_le le mo bi hok _ l
end Go.Proofs.Ytpdigpfjmpaooaa
