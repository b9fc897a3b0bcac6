import Derived.Test.YtecaiaobbjddeaaF
/-! The number of the bytes of a number: word.number and word.Word. -/
namespace Go.Proofs.Ytecaiaobbjddeaa
open Go.RowKit
set_option linter.unusedVariables false
set_option linter.unusedSimpArgs false

/-- What has been gathered of x behind k of n bytes. -/
def numAt (x n : Nat) (o : Int) (k : Nat) : Nat := if o = 1 then x % 2 ^ (8 * n) / 2 ^ (8 * (n - k)) * 2 ^ (8 * (n - k)) else x % 2 ^ (8 * k)
theorem numAt_zero (x n : Nat) (o : Int) : numAt x n o 0 = 0 := by
  unfold numAt
  split
  · rw [Nat.sub_zero, Nat.div_eq_of_lt (Nat.mod_lt _ (Nat.pow_pos (by omega)))]; simp
  · simp [Nat.mod_one]
theorem numAt_all (x n : Nat) (o : Int) : numAt x n o n = x % 2 ^ (8 * n) := by
  unfold numAt
  split <;> simp
theorem numAt_lt (x n : Nat) (o : Int) (k : Nat) (hn : n ≤ 8) (hk : k ≤ n) : numAt x n o k < 18446744073709551616 := by
  have h1 : x % 2 ^ (8 * n) < 2 ^ (8 * n) := Nat.mod_lt _ (Nat.pow_pos (by omega))
  have h2 : 2 ^ (8 * n) ≤ 2 ^ 64 := Nat.pow_le_pow_right (by omega) (by omega)
  have h3 : (2 : Nat) ^ 64 = 18446744073709551616 := by decide
  unfold numAt
  split
  · have := Nat.div_mul_le_self (x % 2 ^ (8 * n)) (2 ^ (8 * (n - k))); omega
  · have h4 : x % 2 ^ (8 * k) < 2 ^ (8 * k) := Nat.mod_lt _ (Nat.pow_pos (by omega))
    have h5 : 2 ^ (8 * k) ≤ 2 ^ 64 := Nat.pow_le_pow_right (by omega) (by omega)
    omega
theorem byte_nat (x : BitVec 64) (j : Nat) : (byteAt x j).toNat = x.toNat / 2 ^ (8 * j) % 256 := by
  unfold byteAt
  rw [BitVec.toNat_setWidth, BitVec.toNat_ushiftRight, Nat.shiftRight_eq_div_pow]
/-- The next byte. -/
theorem numAt_step (x n : Nat) (o : Int) (k : Nat) (hk : k < n) (ho : o = 1 ∨ o = 2) :
    numAt x n o (k + 1) = numAt x n o k + x / 2 ^ (8 * which n o k) % 256 * 2 ^ (8 * which n o k) ∧ numAt x n o (k + 1) = numAt x n o k ||| x / 2 ^ (8 * which n o k) % 256 * 2 ^ (8 * which n o k) := by
  have hb : x / 2 ^ (8 * which n o k) % 256 < 256 := Nat.mod_lt _ (by omega)
  rcases ho with rfl | rfl
  · obtain ⟨m, hm⟩ : ∃ m, n - k = m + 1 := ⟨n - k - 1, by omega⟩
    have hw : which n 1 k = m := by unfold which; simp; omega
    rw [hw] at hb ⊢
    unfold numAt
    rw [if_pos rfl, if_pos rfl, hm, show n - (k + 1) = m by omega]
    have e1 : x / 2 ^ (8 * m) % 256 = x % 2 ^ (8 * n) / 2 ^ (8 * m) % 256 := by
      have : (2 : Nat) ^ (8 * n) = 2 ^ (8 * m) * (256 * 2 ^ (8 * (n - m - 1))) := by
        rw [show (256 : Nat) = 2 ^ 8 by decide, ← Nat.pow_add, ← Nat.pow_add]; congr 1; omega
      rw [this, Nat.mod_mul_right_div_self, Nat.mod_mul_right_mod]
    rw [e1]
    generalize x % 2 ^ (8 * n) = y at *
    have e2 : (2 : Nat) ^ (8 * (m + 1)) = 2 ^ (8 * m) * 256 := by rw [show (256 : Nat) = 2 ^ 8 by decide, ← Nat.pow_add]; congr 1
    rw [e2, ← Nat.div_div_eq_div_mul]
    generalize y / 2 ^ (8 * m) = a at *
    have ha : a = a / 256 * 256 + a % 256 := by omega
    have s1 : a * 2 ^ (8 * m) = a / 256 * (2 ^ (8 * m) * 256) + a % 256 * 2 ^ (8 * m) := by
      conv => lhs; rw [ha, Nat.add_mul]
      rw [Nat.mul_assoc, Nat.mul_comm 256]
    refine ⟨s1, ?_⟩
    have s2 := Nat.shiftLeft_add_eq_or_of_lt (i := 8 * (m + 1)) (b := a % 256 * 2 ^ (8 * m)) (by
      rw [e2, Nat.mul_comm (2 ^ (8 * m))]
      exact Nat.mul_lt_mul_of_pos_right (Nat.mod_lt _ (by omega)) (Nat.pow_pos (by omega))) (a / 256)
    rw [Nat.shiftLeft_eq, e2] at s2
    rw [← s2, s1]
  · have hw : which n 2 k = k := by unfold which; simp
    rw [hw] at hb ⊢
    unfold numAt
    rw [if_neg (by decide), if_neg (by decide)]
    have s1 : x % 2 ^ (8 * (k + 1)) = x % 2 ^ (8 * k) + x / 2 ^ (8 * k) % 256 * 2 ^ (8 * k) := by
      rw [show (2 : Nat) ^ (8 * (k + 1)) = 2 ^ (8 * k) * 256 by rw [show (256 : Nat) = 2 ^ 8 by decide, ← Nat.pow_add]; congr 1, Nat.mod_mul, Nat.mul_comm (2 ^ (8 * k))]
    refine ⟨s1, ?_⟩
    have s2 := Nat.shiftLeft_add_eq_or_of_lt (i := 8 * k) (b := x % 2 ^ (8 * k)) (Nat.mod_lt _ (Nat.pow_pos (by omega))) (x / 2 ^ (8 * k) % 256)
    rw [Nat.shiftLeft_eq] at s2
    rw [s1, Nat.or_comm, ← s2, Nat.add_comm]

set_option maxRecDepth 100000 in
set_option maxHeartbeats 2000000 in
theorem number_any (x : BitVec 64) (n len cap : Nat) (o : Int) (A : Option Addr) (w : World) (hlen : len = n) (hr : RdB w A (wordBytes x n o)) (hn : n ≤ 8) (hc : n ≤ cap) (ho : o = 1 ∨ o = 2) :
    Calls Try.prog 36 #[.slice A len cap, .int .i64 o] w fun e w' => e = .returned (.int .u64 ((x.toNat % 2 ^ (8 * n) : Nat) : Int)) ∧ w = w' := by
  subst hlen
  have Hr := Lib.hid hr
  clear hr
  obtain ⟨T, hT⟩ : ∃ T, x.toNat % 2 ^ (8 * len) = T := ⟨_, rfl⟩
  rw [hT]
  have HT := Lib.hid ((numAt_all x.toNat len o).trans hT)
  clear hT
  go_enter Try.func36, Try.ntmps36
  go_wp2
  go_loop [5, 10] (fun v i => ∃ k : Nat, k ≤ len ∧ i = .int .i64 k ∧ v = .int .u64 (numAt x.toNat len o k : Nat)) (fun _ i => len - (intOf i).toNat)
  case atStart => exact ⟨0, Nat.zero_le _, rfl, by rw [numAt_zero]; rfl⟩
  case round =>
    obtain ⟨k, hk, rfl, rfl⟩ := hrel
    by_cases hlt : k < len
    · obtain ⟨ad, rfl, hcell⟩ := Hr.out.at' k (by rw [length_wordBytes]; exact hlt)
      have hbe : (wordBytes x len o)[k]'(by rw [length_wordBytes]; exact hlt) = byteAt x (which len o k) := by simp [wordBytes]
      rw [hbe, byte_nat] at hcell
      obtain ⟨s1, s2⟩ := numAt_step x.toNat len o k hlt ho
      have l1 := numAt_lt x.toNat len o (k + 1) hn (by omega)
      have l0 := numAt_lt x.toNat len o k hn (by omega)
      have hb : x.toNat / 2 ^ (8 * which len o k) % 256 < 256 := Nat.mod_lt _ (by omega)
      have hsn : (shiftOf len o k).toNat = 8 * which len o k := by
        unfold shiftOf which
        rcases ho with rfl | rfl <;> simp <;> omega
      obtain ⟨c, hcc⟩ : ∃ c, shiftOf len o k = c := ⟨_, rfl⟩
      have hs0 : 0 ≤ c := by rw [← hcc]; unfold shiftOf; split <;> omega
      have hs1 : c ≤ 56 := by rw [← hcc]; unfold shiftOf; split <;> omega
      rw [hcc] at hsn
      rw [← hsn] at s1 s2 hcell hb
      generalize x.toNat / 2 ^ c.toNat % 256 = B at *
      obtain ⟨N, hN⟩ : ∃ N, numAt x.toNat len o (k + 1) = N := ⟨_, rfl⟩
      obtain ⟨X, hX⟩ : ∃ X, numAt x.toNat len o k = X := ⟨_, rfl⟩
      obtain ⟨S, hS⟩ : ∃ S, B * 2 ^ c.toNat = S := ⟨_, rfl⟩
      rw [hN, hX, hS] at s1 s2
      rw [hN] at l1
      rw [hX] at l0 ⊢
      have hsh : IntKind.u64.wrap ((B : Int) * 2 ^ c.toNat) = (S : Int) := by
        have e : (B : Int) * 2 ^ c.toNat = (S : Int) := by rw [← hS]; push_cast; rfl
        rw [e, IntKind.wrap_u64]; omega
      have hor : bits .or .u64 (X : Int) (S : Int) = (N : Int) := by rw [u64_or_nat _ _ l0 (by omega), ← s2]
      have Hc := Lib.hid hcc
      have HN := Lib.hid hN
      clear hcc hN hX hS s1 s2 hsn hbe
      go_wp2_with (go_at_call 34; refine (shift_any k len o _ (by omega) (by omega) (by omega) ho).mono ?_; rintro e w' ⟨rfl, rfl⟩; rw [Hc.out])
      go_round
      case rel => exact ⟨k + 1, by omega, by go_num, by rw [HN.out]⟩
      case measure => simp [intOf]; omega
    · go_wp2
      go_ret
      obtain rfl : k = len := by omega
      exact ⟨ret_int (by rw [HT.out]), rfl⟩
end Go.Proofs.Ytecaiaobbjddeaa
