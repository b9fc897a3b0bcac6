import Derived.Test.YtcdlpbccampfdaaG
import Derived.Test.YtcdlpbccampfdaaD
import Derived.Test.YtcdlpbccampfdaaH
/-! The walks of the laws CrcForged and CrcBacks. -/
namespace Go.Proofs.Ytcdlpbccampfdaa
open Go.RowKit
open M
set_option linter.unusedVariables false
set_option linter.unusedSimpArgs false

theorem plain5 : Try.prog.plainKey 5 = true := by kernel_rfl
theorem cells5 : Try.prog.cellsOf 5 = 1 := by kernel_rfl
theorem forged_eq (b : List (BitVec 8)) (want : BitVec 32) : sums 0#32 [b, four (forge (sums 0#32 [b]) want)] = want := forged (sums 0#32 [b]) want
theorem forged_walk (b : List (BitVec 8)) (B : Option Addr) (cb : Nat) (want : BitVec 32) (w : World)
    (hb : RdB w B b) (hlb : b.length ≤ cb) (_yb : b.length * 1 ≤ 140737488351232) :
    Calls Try.prog 7 #[.slice B b.length cb, .int .u32 want.toNat] w fun e w' => e = .returned (.bool true) ∧ Below w.heap.size w w' := by
  go_enter Try.func7, Try.ntmps7
  go_wp2_with fail
  refine (awake_any _).mono ?_
  rintro e w1 ⟨rfl, hw⟩
  go_wp2_with fail
  refine (cut_any b B cb w1 hlb hb.1).mono ?_
  rintro e w2 ⟨rfl, rfl⟩
  have hb' : RdB w1 B (b.take 8192) := RdR.below (hb.take 8192) hw (fun _ _ h => h)
  have hlb' := take_le b cb hlb 8192
  generalize b.take 8192 = b' at *
  clear hb hlb
  go_wp2_with fail
  refine (of_any [b'] _ _ _ (RdP.one _ _ _ _ _ _ _ _ rfl hb' rfl hlb')).mono ?_
  rintro e w2 ⟨rfl, rfl⟩
  go_wp2_with fail
  refine (forge_any (sums 0#32 [b']) want _).mono ?_
  rintro e w2 ⟨rfl, hw2⟩
  have hb2 : RdB w2 B b' := RdR.below (RdB.alloc' hb' _) hw2 (fun _ _ h => h)
  unfold arr4
  go_wp2_with fail
  refine (rof_any [b', four (forge (sums 0#32 [b']) want)] _ _ _ (RdP.two _ _ _ _ _ _ _ _ _ _ _ _ (by simp [size_alloc]) (RdB.alloc' hb2 _) (RdB.newAt _ _ _ _ _ _ rfl (by simp [four]) rfl) rfl rfl hlb' (Nat.le_refl 4))).mono ?_
  rintro e w3 ⟨rfl, rfl⟩
  rw [forged_eq]
  go_wp2
  go_ret
  have h1 := hw.trans (((Below.refl _ w1).alloc (Nat.le_refl _) (.cells #[.slice B b'.length cb] 23)).mono hw.size)
  have h2 := h1.trans (hw2.mono h1.size)
  exact ⟨rfl, (h2.alloc h2.size _).alloc (by have := h2.size; simp; omega) _⟩

theorem backs_walk (s want : BitVec 32) (b : List (BitVec 8)) (B : Option Addr) (cb : Nat) (w : World)
    (hb : RdB w B b) (hlb : b.length ≤ cb) (_yb : b.length * 1 ≤ 140737488351232) :
    Calls Try.prog 8 #[.int .u32 s.toNat, .int .u32 want.toNat, .slice B b.length cb] w fun e w' => e = .returned (.bool true) ∧ Below w.heap.size w w' := by
  go_enter Try.func8, Try.ntmps8
  go_wp2_with fail
  refine (cut_any b B cb w hlb hb.1).mono ?_
  rintro e w2 ⟨rfl, rfl⟩
  have hb' := hb.take 8192
  have hlb' := take_le b cb hlb 8192
  generalize b.take 8192 = b' at *
  clear hb hlb
  go_wp2_with fail
  refine (back_any s b' _ _ _ hb').mono ?_
  rintro e w1 ⟨rfl, hd⟩
  have hw1 := hd.below
  have hb1 : RdB w1 B b' := RdR.below hb' hw1 (fun _ _ h => h)
  go_wp2_with fail
  refine (rback_any s b' _ _ _ hb1).mono ?_
  rintro e w2 ⟨rfl, rfl⟩
  go_wp2_with fail
  refine (forge_any s want _).mono ?_
  rintro e w2 ⟨rfl, hw2⟩
  unfold arr4
  go_wp2_with fail
  refine (rforge_any s want _).mono ?_
  rintro e w3 ⟨rfl, hw3⟩
  unfold arr4
  generalize (M.byteOf (forge s want) 0).toNat = b0 at *
  generalize (M.byteOf (forge s want) 1).toNat = b1 at *
  generalize (M.byteOf (forge s want) 2).toNat = b2 at *
  generalize (M.byteOf (forge s want) 3).toNat = b3 at *
  have heq : ∀ w, (Op.equalIn 10000 35 (.agg #[.int .u8 b0, .int .u8 b1, .int .u8 b2, .int .u8 b3]) (.agg #[.int .u8 b0, .int .u8 b1, .int .u8 b2, .int .u8 b3])).run Try.prog w = .ok true w := fun w => by
    obtain ⟨i0, hi0, _⟩ := info_parts info5
    have h := run_eq_ints (P := Try.prog) (k := .u8) Try.underlying35 hi0 Try.underlying5 plain5 cells5 [(b0 : Int), b1, b2, b3] [(b0 : Int), b1, b2, b3] rfl rfl w
    simpa using h
  go_wp2_with fail
  refine (awake_any _).mono ?_
  rintro e w4 ⟨rfl, hw4⟩
  go_wp2
  go_ret
  have h2 := hw1.trans (hw2.mono hw1.size)
  have h3 := h2.trans (hw3.mono h2.size)
  exact ⟨rfl, h3.trans (hw4.mono h3.size)⟩
end Go.Proofs.Ytcdlpbccampfdaa
