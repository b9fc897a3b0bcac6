import Derived.Test.YtecaiaobbjddeaaPWordZigzagsx1
import Derived.Laws.BitsAllLaws
namespace Go.Proofs.Ytecaiaobbjddeaa.Pure
open Go.RowKit Go.Proofs.Ytecaiaobbjddeaa.PWordZigzags Go.Proofs.YtecaiaobbjddeaaW.PrintWords Go.Proofs.YtecaiaobbjddeaaW.PrintLast

theorem w64 (n : Int) (h : -9223372036854775808 ≤ n ∧ n ≤ 9223372036854775807) : wrap64 n = n := by unfold wrap64; omega
theorem zAlive : salternlaw01_alive.f 5 = some true := by decide +kernel
theorem zXor0 (v : Int) (h0 : 0 ≤ v) (h1 : v < 18446744073709551616) : Go.bits .xor .u64 v 0 = v := by
  have := u64_xor_nat v.toNat 0 (by omega) (by omega)
  rw [Nat.xor_zero, Int.toNat_of_nonneg h0] at this
  exact this
theorem zNot (n : Nat) (h : n < 18446744073709551616) : n ^^^ 18446744073709551615 = 18446744073709551615 - n := by
  have e : BitVec.ofNat 64 n ^^^ BitVec.allOnes 64 = ~~~ (BitVec.ofNat 64 n) := BitVec.xor_allOnes
  have := congrArg BitVec.toNat e
  rw [BitVec.toNat_xor, BitVec.toNat_not, BitVec.toNat_allOnes, BitVec.toNat_ofNat, Nat.mod_eq_of_lt (by omega)] at this
  simpa using this
theorem zXor1 (v : Int) (h0 : 0 ≤ v) (h1 : v < 18446744073709551616) : Go.bits .xor .u64 v 18446744073709551615 = 18446744073709551615 - v := by
  have := u64_xor_nat v.toNat 18446744073709551615 (by omega) (by omega)
  rw [zNot v.toNat (by omega), Int.toNat_of_nonneg h0] at this
  have e : ((18446744073709551615 - v.toNat : Nat) : Int) = 18446744073709551615 - v := by omega
  rw [e] at this
  exact this
theorem zSame (x : Int) (h0 : -9223372036854775808 ≤ x) (h1 : x ≤ 9223372036854775807) : word_Zigzag.f x = salternref01_Zigzag.f x := by
  unfold word_Zigzag.f salternref01_Zigzag.f
  simp only [IntKind.wrap_u64]
  by_cases h : x < 0
  · rw [if_pos h, w64 (x + 1) (by omega), w64 (-(x + 1)) (by omega), show x / 9223372036854775808 = -1 by omega, show (-1 : Int) % 18446744073709551616 = 18446744073709551615 by omega, zXor1 _ (by omega) (by omega)]
    congr 1; omega
  · rw [if_neg h, show x / 9223372036854775808 = 0 by omega, show (0 : Int) % 18446744073709551616 = 0 by omega, zXor0 _ (by omega) (by omega)]
theorem zBit (u : Int) (h0 : 0 ≤ u) (h1 : u < 18446744073709551616) : Go.bits .and .u64 u 1 = u % 2 := by
  have := u64_and_nat u.toNat 1 (by omega) (by omega)
  rw [Nat.and_one_is_mod, Int.toNat_of_nonneg h0] at this
  rw [show ((u.toNat % 2 : Nat) : Int) = u % 2 by omega] at this
  exact this
theorem zI0 (v : Int) (h0 : 0 ≤ v) (h1 : v < 9223372036854775808) : Go.bits .xor .i64 v 0 = v := by
  show IntKind.i64.wrap ((BitVec.ofInt 64 v ^^^ BitVec.ofInt 64 0).toNat : Int) = _
  have e : BitVec.ofInt 64 v ^^^ BitVec.ofInt 64 0 = BitVec.ofInt 64 v := by ext i hi; simp
  rw [e, BitVec.toNat_ofInt]
  have e2 : (v % ((2 ^ 64 : Nat) : Int)).toNat = v.toNat := by
    have : ((2 ^ 64 : Nat) : Int) = 18446744073709551616 := by decide
    rw [this]; omega
  rw [e2, IntKind.wrap_i64]; omega
theorem zI1 (v : Int) (h0 : 0 ≤ v) (h1 : v < 9223372036854775808) : Go.bits .xor .i64 v (-1) = -1 - v := by
  show IntKind.i64.wrap ((BitVec.ofInt 64 v ^^^ BitVec.ofInt 64 (-1)).toNat : Int) = _
  have e : BitVec.ofInt 64 v ^^^ BitVec.ofInt 64 (-1) = ~~~ BitVec.ofInt 64 v := by
    have : BitVec.ofInt 64 (-1) = BitVec.allOnes 64 := by decide
    rw [this]; exact BitVec.xor_allOnes
  rw [e, BitVec.toNat_not, BitVec.toNat_ofInt]
  have : ((2 ^ 64 - 1 - (v % ((2 ^ 64 : Nat) : Int)).toNat : Nat) : Int) = 18446744073709551615 - v := by
    have e2 : (v % ((2 ^ 64 : Nat) : Int)).toNat = v.toNat := by
      have : ((2 ^ 64 : Nat) : Int) = 18446744073709551616 := by decide
      rw [this]; omega
    rw [e2]; omega
  rw [this, IntKind.wrap_i64]; omega
theorem uSame (u : Int) (h0 : 0 ≤ u) (h1 : u < 18446744073709551616) : word_Unzigzag.f u = salternref01_Unzigzag.f u := by
  unfold word_Unzigzag.f salternref01_Unzigzag.f
  rw [zBit u h0 h1, Int.tmod_eq_emod_of_nonneg h0, Int.tdiv_eq_ediv_of_nonneg h0]
  simp only [IntKind.wrap_u64]
  rw [w64 (u % 2) (by omega), w64 (u / 2) (by omega), show u / 2 % 18446744073709551616 = u / 2 by omega]
  by_cases h : u % 2 = 1
  · rw [if_pos h, h, w64 (-1) (by omega), zI1 _ (by omega) (by omega), w64 (u / 2) (by omega), w64 (-(u / 2)) (by omega), w64 _ (by omega)]
    congr 1; omega
  · rw [if_neg h, show u % 2 = 0 by omega, w64 (-0) (by omega), show (-0 : Int) = 0 from rfl, zI0 _ (by omega) (by omega), w64 (u / 2) (by omega)]
theorem WordZigzags : salternlaw01_WordZigzags.Pure := by
  intro x u hx hu
  simp [Lit.wf, IntKind.min, IntKind.max, IntKind.signed, IntKind.bits] at hx hu
  refine ⟨5, ?_⟩
  unfold salternlaw01_WordZigzags.f
  rw [zSame x (by omega) (by omega), uSame u (by omega) (by omega), zAlive]
  obtain ⟨a, ha⟩ : ∃ a, salternref01_Zigzag.f x = some a := by unfold salternref01_Zigzag.f; split <;> exact ⟨_, rfl⟩
  obtain ⟨b, hb⟩ : ∃ b, salternref01_Unzigzag.f u = some b := by unfold salternref01_Unzigzag.f; split <;> exact ⟨_, rfl⟩
  rw [ha, hb]
  simp
end Go.Proofs.Ytecaiaobbjddeaa.Pure
