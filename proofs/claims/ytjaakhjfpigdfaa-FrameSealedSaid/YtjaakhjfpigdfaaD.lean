import Derived.Test.YtjaakhjfpigdfaaC
/-! The step: what it computes. -/
namespace Go.Proofs.Ytjaakhjfpigdfaa
open Go.RowKit
set_option linter.unusedVariables false
set_option linter.unusedSimpArgs false
def bg1 (e : W32) : W32 := rot e 6 ^^^ rot e 11 ^^^ rot e 25
def bg0 (a : W32) : W32 := rot a 2 ^^^ rot a 13 ^^^ rot a 22
def chW (e f g : W32) : W32 := (e &&& f) ^^^ (~~~e &&& g)
def mjW (a b c : W32) : W32 := (a &&& b) ^^^ (a &&& c) ^^^ (b &&& c)
def tW1 (e f g h k w : W32) : W32 := h + bg1 e + chW e f g + k + w
def tW2 (a b c : W32) : W32 := bg0 a + mjW a b c
/-- One round. -/
def rnd (k w : W32) : List W32 → List W32
  | [a, b, c, d, e, f, g, h] => [tW1 e f g h k w + tW2 a b c, a, b, c, d + tW1 e f g h k w, e, f, g]
  | s => s
def roundsL (ws : List W32) (s : List W32) : Nat → List W32
  | 0 => s
  | i + 1 => rnd (kL.getD i 0) (ws.getD i 0) (roundsL ws s i)
/-- The state behind a block. -/
def stepL (s : List W32) (l : List (BitVec 8)) : List W32 := List.zipWith (· + ·) (roundsL (schedL l) s 64) s
theorem rnd_len (k w : W32) (s : List W32) (h : s.length = 8) : (rnd k w s).length = 8 := by
  match s, h with
  | [a, b, c, d, e, f, g, h], _ => rfl
theorem roundsL_len (ws s : List W32) (h : s.length = 8) : ∀ i, (roundsL ws s i).length = 8
  | 0 => h
  | i + 1 => rnd_len _ _ _ (roundsL_len ws s h i)
theorem stepL_len (s : List W32) (l : List (BitVec 8)) (h : s.length = 8) : (stepL s l).length = 8 := by
  unfold stepL
  rw [List.length_zipWith, roundsL_len _ _ h, h]; rfl
/-- The block of abc, padded. -/
def abcL : List (BitVec 8) := [97#8, 98#8, 99#8, 128#8] ++ List.replicate 59 0#8 ++ [24#8]
theorem abc_step : stepL startL abcL = [0xba7816bf#32, 0x8f01cfea#32, 0x414140de#32, 0x5dae2223#32, 0xb00361a3#32, 0x96177a9c#32, 0xb410ff61#32, 0xf20015ad#32] := by decide +kernel
end Go.Proofs.Ytjaakhjfpigdfaa
