import Derived.Test.YtcdlpbccampfdaaD
/-! The walk of the law CrcCats. -/
namespace Go.Proofs.Ytcdlpbccampfdaa
open Go.RowKit
open M
set_option linter.unusedVariables false
set_option linter.unusedSimpArgs false

theorem sums_one (l : List (BitVec 8)) : sums 0#32 [l] = add 0#32 l := rfl
theorem cat_eq (a b : List (BitVec 8)) (n : Nat) (hn : n = b.length) : zeros (sums 0#32 [a]) n ^^^ sums 0#32 [b] = sums 0#32 [a, b] := by
  subst hn; exact (add_split (add 0#32 a) b).symm
theorem back_eq2 (a b : List (BitVec 8)) : unadd (sums 0#32 [a, b]) b = add 0#32 a := unadd_add (add 0#32 a) b

theorem cats_walk (a : List (BitVec 8)) (A : Option Addr) (ca : Nat) (b : List (BitVec 8)) (B : Option Addr) (cb : Nat) (w : World)
    (ha : RdB w A a) (hla : a.length ≤ ca) (_ya : a.length * 1 ≤ 140737488351232) (hb : RdB w B b) (hlb : b.length ≤ cb) (_yb : b.length * 1 ≤ 140737488351232) :
    Calls Try.prog 6 #[.slice A a.length ca, .slice B b.length cb] w fun e w' => e = .returned (.bool true) ∧ Below w.heap.size w w' := by
  go_enter Try.func6, Try.ntmps6
  go_wp2_with fail
  refine (cut_any a A ca w hla ha.1).mono ?_
  rintro e w' ⟨rfl, rfl⟩
  have ha' := ha.take 8192
  have hla' := take_le a ca hla 8192
  generalize a.take 8192 = a' at *
  go_wp2_with fail
  refine (cut_any b B cb w hlb hb.1).mono ?_
  rintro e w' ⟨rfl, rfl⟩
  have hb' := hb.take 8192
  have hlb' := take_le b cb hlb 8192
  have hle : (b.take 8192).length ≤ 8192 := List.length_take_le 8192 b
  generalize b.take 8192 = b' at *
  clear ha hb hla hlb
  go_wp2_with fail
  refine (of_any [a'] _ _ _ (RdP.one _ _ _ _ _ _ _ _ rfl ha' rfl hla')).mono ?_
  rintro e w' ⟨rfl, rfl⟩
  go_wp2_with fail
  refine (of_any [b'] _ _ _ (RdP.one _ _ _ _ _ _ _ _ (by simp [size_alloc]) (RdB.alloc' hb' _) rfl hlb')).mono ?_
  rintro e w' ⟨rfl, rfl⟩
  go_wp2_with fail
  refine (cat_any (sums 0#32 [a']) (sums 0#32 [b']) _ _ (by omega) (by omega)).mono ?_
  rintro e w' ⟨rfl, rfl⟩
  rw [cat_eq a' b' _ (by omega)]
  go_wp2_with fail
  refine (rof_any [a', b'] _ _ _ (RdP.two _ _ _ _ _ _ _ _ _ _ _ _ (by simp [size_alloc]) (RdB.alloc' (RdB.alloc' ha' _) _) (RdB.alloc' (RdB.alloc' hb' _) _) rfl rfl hla' hlb')).mono ?_
  rintro e w' ⟨rfl, rfl⟩
  go_wp2_with fail
  refine (back_any (sums 0#32 [a', b']) b' _ _ _ (RdB.alloc' (RdB.alloc' (RdB.alloc' hb' _) _) _)).mono ?_
  rintro e w' ⟨rfl, hd⟩
  have hd' := hd.below
  have ha2 : RdB w' A a' := RdR.below (RdB.alloc' (RdB.alloc' (RdB.alloc' ha' _) _) _) hd' (fun _ _ h => h)
  rw [back_eq2]
  go_wp2_with fail
  refine (one_any a' _ _ _ ha2).mono ?_
  rintro e w1 ⟨rfl, rfl⟩
  go_wp2_with fail
  refine (awake_any _).mono ?_
  rintro e w1 ⟨rfl, hw⟩
  go_wp2
  go_ret
  have h3 := (((Below.refl _ w).alloc (Nat.le_refl _) (.cells #[.slice A a'.length ca] 23)).alloc (by simp) (.cells #[.slice B b'.length cb] 23)).alloc (by simp; omega) (.cells #[.slice A a'.length ca, .slice B b'.length cb] 23)
  have h4 := h3.trans (hd'.mono (by simp; omega))
  exact ⟨rfl, h4.trans (hw.mono h4.size)⟩
end Go.Proofs.Ytcdlpbccampfdaa
