import Derived.Test.YtcdlpbccampfdaaC
/-! The laws' walks. -/
namespace Go.Proofs.Ytcdlpbccampfdaa
open Go.RowKit
open M
set_option linter.unusedVariables false
set_option linter.unusedSimpArgs false

theorem take_le (l : List (BitVec 8)) (c : Nat) (h : l.length ≤ c) (n : Nat) : (l.take n).length ≤ c := Nat.le_trans (List.length_take_le' n l) h
theorem adds_walk (s : BitVec 32) (a : List (BitVec 8)) (A : Option Addr) (ca : Nat) (b : List (BitVec 8)) (B : Option Addr) (cb : Nat) (x : BitVec 8) (w : World)
    (ha : RdB w A a) (hla : a.length ≤ ca) (_ya : a.length * 1 ≤ 140737488351232) (hb : RdB w B b) (hlb : b.length ≤ cb) (_yb : b.length * 1 ≤ 140737488351232) :
    Calls Try.prog 3 #[.int .u32 s.toNat, .slice A a.length ca, .slice B b.length cb, .int .u8 x.toNat] w fun e w' => e = .returned (.bool true) ∧ Below w.heap.size w w' := by
  go_enter Try.func3, Try.ntmps3
  go_wp2_with fail
  refine (cut_any a A ca w hla ha.1).mono ?_
  rintro e w' ⟨rfl, rfl⟩
  have ha' := ha.take 8192
  have hla' := take_le a ca hla 8192
  generalize a.take 8192 = a' at *
  go_wp2_with fail
  refine (cut_any b B cb w hlb hb.1).mono ?_
  rintro e w' ⟨rfl, rfl⟩
  have hb' := hb.take 8192
  have hlb' := take_le b cb hlb 8192
  generalize b.take 8192 = b' at *
  clear ha hb hla hlb
  go_wp2_with fail
  refine (add_any s a' A ca w ha').mono ?_
  rintro e w' ⟨rfl, rfl⟩
  go_wp2_with fail
  refine (radd_any s a' A ca w ha').mono ?_
  rintro e w' ⟨rfl, rfl⟩
  go_wp2_with fail
  refine (of_any [a', b'] _ _ _ (RdP.two _ _ _ _ _ _ _ _ _ _ _ _ rfl ha' hb' rfl rfl hla' hlb')).mono ?_
  rintro e w' ⟨rfl, rfl⟩
  go_wp2_with fail
  refine (rof_any [a', b'] _ _ _ (RdP.two _ _ _ _ _ _ _ _ _ _ _ _ (by simp [size_alloc]) (RdB.alloc' ha' _) (RdB.alloc' hb' _) rfl rfl hla' hlb')).mono ?_
  rintro e w' ⟨rfl, rfl⟩
  go_wp2_with fail
  refine (of_any [] _ _ _ (RdP.nil _ _)).mono ?_
  rintro e w' ⟨rfl, rfl⟩
  rw [show sums 0#32 ([] : List (List (BitVec 8))) = 0#32 from rfl]
  go_wp2_with fail
  refine (entry_any x _).mono ?_
  rintro e w' ⟨rfl, rfl⟩
  go_wp2_with fail
  refine (rentry_any x _).mono ?_
  rintro e w' ⟨rfl, rfl⟩
  go_wp2_with fail
  refine (awake_any _).mono ?_
  rintro e w' ⟨rfl, hw⟩
  go_wp2
  go_ret
  refine ⟨rfl, (((Below.refl _ _).alloc (Nat.le_refl _) _).alloc (by simp) _).trans (hw.mono (by simp; omega))⟩
end Go.Proofs.Ytcdlpbccampfdaa
