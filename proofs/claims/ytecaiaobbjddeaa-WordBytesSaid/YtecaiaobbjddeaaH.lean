import Derived.Test.YtecaiaobbjddeaaG
import Derived.Test.YtecaiaobbjddeaaE
/-! word.Word behind a number's bytes; plain laws for WordBack. -/
namespace Go.Proofs.Ytecaiaobbjddeaa
open Go.RowKit
set_option linter.unusedVariables false
set_option linter.unusedSimpArgs false

set_option maxRecDepth 100000 in
set_option maxHeartbeats 2000000 in
theorem word_back (x : BitVec 64) (n len cap : Nat) (bits o : Int) (l : List (BitVec 8)) (A : Option Addr) (w : World) (hlen : len = l.length) (hr : RdB w A l) (hl : l.length ≤ cap) (ht : l.take n = wordBytes x n o)
    (hn : bits = 8 ∧ n = 1 ∨ bits = 16 ∧ n = 2 ∨ bits = 32 ∧ n = 4 ∨ bits = 64 ∧ n = 8) (ho : o = 1 ∨ o = 2) :
    Calls Try.prog 23 #[.slice A len cap, .int .i64 bits, .int .i64 o] w fun e w' => e = .returned (.tuple #[.int .u64 ((x.toNat % 2 ^ (8 * n) : Nat) : Int), .int .i64 0]) ∧ w = w' := by
  have hn8 : n ≤ 8 := by omega
  have hbits : bits = 8 ∨ bits = 16 ∨ bits = 32 ∨ bits = 64 := by omega
  have hq : bits.tdiv 8 = (n : Int) := by rcases hn with ⟨rfl, rfl⟩ | ⟨rfl, rfl⟩ | ⟨rfl, rfl⟩ | ⟨rfl, rfl⟩ <;> decide
  have hnl : n ≤ l.length := by
    have := congrArg List.length ht
    rw [List.length_take, length_wordBytes] at this
    omega
  have hm := hr.1
  have hr2 := hr.take n
  rw [ht] at hr2
  have NUM := Lib.hid (number_any x n n cap o A w rfl hr2 hn8 (by omega) ho)
  obtain ⟨T, hT⟩ : ∃ T, x.toNat % 2 ^ (8 * n) = T := ⟨_, rfl⟩
  rw [hT] at NUM ⊢
  subst hlen
  have c1 : (n : Int) ≤ (l.length : Int) := by omega
  have c2 : (l.length : Int) ≤ (cap : Int) := by omega
  have Hbits := Lib.hid hbits
  have Ho := Lib.hid ho
  have b0 : -9223372036854775808 ≤ bits := by omega
  have b1 : bits ≤ 64 := by omega
  clear hn hr hr2 ht hT hbits ho
  go_enter Try.func23, Try.ntmps23
  go_wp2_with (first | (go_at_call 33; refine (way_ok bits o _ Hbits.out Ho.out).mono ?_; rintro e w' ⟨rfl, rfl⟩) | (go_at_call 36; refine NUM.out.mono ?_; rintro e w' ⟨rfl, rfl⟩))
  go_ret2
  exact ⟨rfl, rfl⟩
open Go.Proofs.Ytecaiaobbjddeaa.Pure in
/-- A number turned, and turned back. -/
theorem turn_back (x n : Nat) (o : Int) (hx : x < 18446744073709551616) (hn : Wd n) (h0 : -64 < o) (h1 : o < 64) :
    ∃ y : Nat, y < 18446744073709551616 ∧ PWordTurns.word_Turn.f x n o = some ((y : Int), 0) ∧ PWordTurns.word_Turn.f y n (-o) = some (((x % 2 ^ n : Nat) : Int), 0) := by
  have tw : ∀ (x : Nat) (o : Int), x < 18446744073709551616 → -64 < o → o < 64 → ∃ y : Nat, PWordTurns.word_Turn.f x n o = some ((y : Int), 0) ∧ St n (o % (n : Int)).toNat (x % 2 ^ n) y := by
    intro x o hx h0 h1
    have hl := hn.le
    have hw : PWordTurns.word_width.f (n : Int) = some 0 := by rcases hn with rfl | rfl | rfl | rfl <;> rfl
    obtain ⟨e, he, he6⟩ : ∃ e, n = 2 ^ e ∧ e ≤ 6 := by
      rcases hn with rfl | rfl | rfl | rfl
      · exact ⟨3, rfl, by omega⟩
      · exact ⟨4, rfl, by omega⟩
      · exact ⟨5, rfl, by omega⟩
      · exact ⟨6, rfl, by omega⟩
    obtain ⟨k, hk⟩ : ∃ k : Nat, (o % (n : Int)).toNat = k := ⟨_, rfl⟩
    have hkn : k < n := by have := Int.emod_lt_of_pos o (show (0 : Int) < n by omega); omega
    have hx2 : x % 2 ^ n < 2 ^ n := Nat.mod_lt _ (Nat.pow_pos (by omega))
    obtain ⟨y, hs, hy⟩ := word_at (x % 2 ^ n) n k hn hx2 hkn
    refine ⟨y, ?_, by rw [hk]; exact hs⟩
    unfold PWordTurns.word_Turn.f
    rw [hw, Option.bind_some, if_pos rfl, lowest_at x n hx hn, Option.bind_some, and_mod o n e he he6 (by omega) (by omega), hk, if_pos (by omega), if_pos (by rw [IntKind.wrap_u64, IntKind.wrap_u64]; omega), hy]
    rfl
  have hl := hn.le
  obtain ⟨y, hy, hs⟩ := tw x o hx h0 h1
  have hm0 := Int.emod_nonneg o (show (n : Int) ≠ 0 by omega)
  have hm1 := Int.emod_lt_of_pos o (show (0 : Int) < n by omega)
  obtain ⟨k, hk⟩ : ∃ k : Nat, (o % (n : Int)).toNat = k := ⟨_, rfl⟩
  rw [hk] at hs
  have hyn := hs.lt (by omega)
  have hy64 : y < 18446744073709551616 := by have := pow_le64 hl.2; omega
  obtain ⟨z, hz, hs2⟩ := tw y (-o) hy64 (by omega) (by omega)
  refine ⟨y, hy64, hy, ?_⟩
  rw [hz]
  rw [Nat.mod_eq_of_lt hyn] at hs2
  have hneg : (-o) % (n : Int) = if o % (n : Int) = 0 then 0 else (n : Int) - o % (n : Int) := by
    split
    · rename_i h
      exact Int.emod_eq_zero_of_dvd (Int.dvd_neg.2 (Int.dvd_of_emod_eq_zero h))
    · rename_i h
      have e : -o = ((n : Int) - o % (n : Int)) + (n : Int) * (-(o / (n : Int)) - 1) := by
        have := Int.emod_add_mul_ediv o (n : Int)
        have e2 : (n : Int) * (-(o / (n : Int)) - 1) = -((n : Int) * (o / (n : Int))) - (n : Int) := by rw [Int.mul_sub, Int.mul_neg, Int.mul_one]
        omega
      rw [e, Int.add_mul_emod_self_left, Int.emod_eq_of_lt (by omega) (by omega)]
  have hzx : z = x % 2 ^ n := by
    by_cases h : o % (n : Int) = 0
    · rw [hneg, if_pos h] at hs2
      have hk0 : k = 0 := by omega
      rw [hk0] at hs
      have a := St.unique (St.zero (Nat.mod_lt _ (Nat.pow_pos (by omega)))) hs
      have b := St.unique (St.zero hyn) hs2
      rw [← b, ← a]
    · rw [hneg, if_neg h, show ((n : Int) - o % (n : Int)).toNat = n - k by omega] at hs2
      exact (St.unique (St_back (by omega) hs) hs2).symm
  rw [hzx]
/-- A number's zigzag is turned back. -/
theorem zig_back (y : Int) (h0 : -9223372036854775808 ≤ y) (h1 : y ≤ 9223372036854775807) : ∃ z : Int, 0 ≤ z ∧ z < 18446744073709551616 ∧ PWordZigzags.word_Zigzag.f y = some z ∧ PWordZigzags.word_Unzigzag.f z = some y := by
  rw [Pure.zSame y h0 h1]
  unfold PWordZigzags.salternref01_Zigzag.f
  by_cases h : y < 0
  · rw [if_pos h]
    refine ⟨_, ?_, ?_, rfl, ?_⟩
    · simp only [IntKind.wrap_u64]; omega
    · simp only [IntKind.wrap_u64]; omega
    · rw [Pure.w64 (y + 1) (by omega), Pure.w64 (-(y + 1)) (by omega)]
      simp only [IntKind.wrap_u64]
      have e : ((-(y + 1)) % 18446744073709551616 * 2 % 18446744073709551616 + 1) % 18446744073709551616 = -2 * y - 1 := by omega
      rw [e, Pure.uSame _ (by omega) (by omega)]
      unfold PWordZigzags.salternref01_Unzigzag.f
      rw [Int.tmod_eq_emod_of_nonneg (by omega), if_pos (by omega), Int.tdiv_eq_ediv_of_nonneg (by omega), IntKind.wrap_u64, show (-2 * y - 1) / 2 % 18446744073709551616 = -y - 1 by omega,
        Pure.w64 (-y - 1) (by omega), Pure.w64 (-(-y - 1)) (by omega), Pure.w64 _ (by omega)]
      congr 1; omega
  · rw [if_neg h]
    refine ⟨_, ?_, ?_, rfl, ?_⟩
    · simp only [IntKind.wrap_u64]; omega
    · simp only [IntKind.wrap_u64]; omega
    · simp only [IntKind.wrap_u64]
      have e : y % 18446744073709551616 * 2 % 18446744073709551616 = 2 * y := by omega
      rw [e, Pure.uSame _ (by omega) (by omega)]
      unfold PWordZigzags.salternref01_Unzigzag.f
      rw [Int.tmod_eq_emod_of_nonneg (by omega), if_neg (by omega), Int.tdiv_eq_ediv_of_nonneg (by omega), IntKind.wrap_u64, show 2 * y / 2 % 18446744073709551616 = y by omega, Pure.w64 _ (by omega)]
end Go.Proofs.Ytecaiaobbjddeaa
