import Derived.Test.YtecaiaobbjddeaaPWordTurnsx1
import Derived.Laws.BitsAllLaws
namespace Go.Proofs.Ytecaiaobbjddeaa.Pure
set_option linter.unusedVariables false
open Go.RowKit Go.Proofs.Ytecaiaobbjddeaa.PWordTurns Go.Proofs.YtecaiaobbjddeaaW.PrintWords Go.Proofs.YtecaiaobbjddeaaW.PrintLast

theorem tAlive : salternlaw01_alive.f 200 = some true := by decide +kernel
theorem t64 (n : Int) (h : -9223372036854775808 ≤ n ∧ n ≤ 9223372036854775807) : wrap64 n = n := by unfold wrap64; omega
/-- A width. -/
def Wd (n : Nat) : Prop := n = 8 ∨ n = 16 ∨ n = 32 ∨ n = 64
theorem Wd.le {n : Nat} (h : Wd n) : 8 ≤ n ∧ n ≤ 64 := by unfold Wd at h; omega
theorem pow_le64 {n : Nat} (h : n ≤ 64) : 2 ^ n ≤ 18446744073709551616 := by
  have := Nat.pow_le_pow_right (show 0 < 2 by omega) h
  simpa using this
/-- The lowest n bits. -/
theorem lowest_at (v n : Nat) (hv : v < 18446744073709551616) (h : Wd n) : word_lowest.f v n = some ((v % 2 ^ n : Nat) : Int) := by
  unfold word_lowest.f
  rcases h with rfl | rfl | rfl | rfl
  · rw [if_neg (by decide), if_pos (by decide)]
    have e : IntKind.u64.wrap ((shl .u64 1 (IntKind.u64.wrap ((8 : Nat) : Int))) - 1) = ((2 ^ 8 - 1 : Nat) : Int) := by decide
    rw [e, u64_and_nat v _ hv (by decide), Nat.and_two_pow_sub_one_eq_mod]
  · rw [if_neg (by decide), if_pos (by decide)]
    have e : IntKind.u64.wrap ((shl .u64 1 (IntKind.u64.wrap ((16 : Nat) : Int))) - 1) = ((2 ^ 16 - 1 : Nat) : Int) := by decide
    rw [e, u64_and_nat v _ hv (by decide), Nat.and_two_pow_sub_one_eq_mod]
  · rw [if_neg (by decide), if_pos (by decide)]
    have e : IntKind.u64.wrap ((shl .u64 1 (IntKind.u64.wrap ((32 : Nat) : Int))) - 1) = ((2 ^ 32 - 1 : Nat) : Int) := by decide
    rw [e, u64_and_nat v _ hv (by decide), Nat.and_two_pow_sub_one_eq_mod]
  · rw [if_pos (by decide), Nat.mod_eq_of_lt (by simpa using hv)]
theorem power_loop : ∀ (m fuel c : Nat), m < fuel → c + m ≤ 63 → salternref01_Power.l0 fuel (m : Int) ((2 ^ c : Nat) : Int) = some ((2 ^ (c + m) : Nat) : Int)
  | 0, fuel, c, hf, _ => by
    obtain ⟨f, rfl⟩ : ∃ f, fuel = f + 1 := ⟨fuel - 1, by omega⟩
    simp [salternref01_Power.l0]
  | m + 1, fuel, c, hf, hc => by
    obtain ⟨f, rfl⟩ : ∃ f, fuel = f + 1 := ⟨fuel - 1, by omega⟩
    rw [salternref01_Power.l0, if_pos (by omega), show ((m + 1 : Nat) : Int) - 1 = (m : Int) by omega, t64 _ (by omega), IntKind.wrap_u64]
    have h1 : 2 ^ (c + 1) ≤ 2 ^ 63 := Nat.pow_le_pow_right (by omega) (by omega)
    have h2 : 2 ^ (c + 1) = 2 ^ c * 2 := Nat.pow_succ ..
    have e : ((2 ^ c : Nat) : Int) * 2 % 18446744073709551616 = ((2 ^ (c + 1) : Nat) : Int) := by
      rw [h2] at h1 ⊢
      have : (2:Nat) ^ 63 = 9223372036854775808 := by decide
      omega
    rw [e, power_loop m f (c + 1) (by omega) (by omega)]
    congr 3; omega
theorem power_at (m fuel : Nat) (hf : m < fuel) (hm : m ≤ 63) : salternref01_Power.f fuel (m : Int) = some ((2 ^ m : Nat) : Int) := by
  have := power_loop m fuel 0 hf (by omega)
  simpa [salternref01_Power.f] using this
theorem low_at (fuel v n : Nat) (hf : 64 < fuel) (hv : v < 18446744073709551616) (h : Wd n) : salternref01_Low.f fuel (v : Int) (n : Int) = some ((v % 2 ^ n : Nat) : Int) := by
  unfold salternref01_Low.f
  have hl := h.le
  by_cases h6 : n = 64
  · subst h6
    rw [if_pos (by omega), Nat.mod_eq_of_lt (by simpa using hv)]
  · rw [if_neg (by omega), power_at n fuel (by omega) (by omega)]
    have hp : 0 < 2 ^ n := Nat.pow_pos (by omega)
    rw [Option.bind_some, if_neg (by omega), Int.tmod_eq_emod_of_nonneg (by omega), Int.natCast_emod]
/-- x turned by k. -/
def St (n k x y : Nat) : Prop := ∃ q r, x = q * 2 ^ (n - k) + r ∧ r < 2 ^ (n - k) ∧ q < 2 ^ k ∧ y = r * 2 ^ k + q
theorem St.zero {n x : Nat} (h : x < 2 ^ n) : St n 0 x x := ⟨0, x, by simp, by simpa using h, by simp, by simp⟩
theorem St.lt {n k x y : Nat} (hk : k ≤ n) (h : St n k x y) : y < 2 ^ n := by
  obtain ⟨q, r, _, hr, hq, rfl⟩ := h
  have e : 2 ^ n = 2 ^ (n - k) * 2 ^ k := by rw [← Nat.pow_add]; congr 1; omega
  have : (r + 1) * 2 ^ k ≤ 2 ^ (n - k) * 2 ^ k := Nat.mul_le_mul_right _ hr
  rw [Nat.add_mul] at this
  omega
theorem St.unique {n k x y z : Nat} (h : St n k x y) (g : St n k x z) : y = z := by
  obtain ⟨q, r, hx, hr, hq, rfl⟩ := h
  obtain ⟨q', r', hx', hr', hq', rfl⟩ := g
  have hp : 0 < 2 ^ (n - k) := Nat.pow_pos (by omega)
  have a : x / 2 ^ (n - k) = q := by rw [hx, Nat.mul_comm, Nat.mul_add_div hp, Nat.div_eq_of_lt hr]; rfl
  have a' : x / 2 ^ (n - k) = q' := by rw [hx', Nat.mul_comm, Nat.mul_add_div hp, Nat.div_eq_of_lt hr']; rfl
  have b : x % 2 ^ (n - k) = r := by rw [hx, Nat.mul_comm, Nat.mul_add_mod, Nat.mod_eq_of_lt hr]
  have b' : x % 2 ^ (n - k) = r' := by rw [hx', Nat.mul_comm, Nat.mul_add_mod, Nat.mod_eq_of_lt hr']
  rw [← a, ← b, a', b']
theorem St.step {n k x y : Nat} (hk : k < n) (h : St n k x y) : St n (k + 1) x ((2 * y) % 2 ^ n + y / 2 ^ (n - 1)) := by
  obtain ⟨q, r, hx, hr, hq, rfl⟩ := h
  obtain ⟨m, hm⟩ : ∃ m, n - k = m + 1 := ⟨n - k - 1, by omega⟩
  have hm' : n - (k + 1) = m := by omega
  have hn : n = m + k + 1 := by omega
  rw [hm, Nat.pow_succ] at hx hr
  obtain ⟨b, r', hr1, hr2, hb⟩ : ∃ b r', r = b * 2 ^ m + r' ∧ r' < 2 ^ m ∧ b < 2 :=
    ⟨r / 2 ^ m, r % 2 ^ m, by rw [Nat.mul_comm]; exact (Nat.div_add_mod r _).symm, Nat.mod_lt _ (Nat.pow_pos (by omega)), Nat.div_lt_of_lt_mul (by omega)⟩
  have hpm : 0 < 2 ^ m := Nat.pow_pos (by omega)
  have hpk : 0 < 2 ^ k := Nat.pow_pos (by omega)
  have s1 : r' * 2 ^ k + q < 2 ^ (m + k) := by
    have : (r' + 1) * 2 ^ k ≤ 2 ^ m * 2 ^ k := Nat.mul_le_mul_right _ hr2
    rw [Nat.add_mul, ← Nat.pow_add] at this
    omega
  have s2 : r * 2 ^ k + q = 2 ^ (m + k) * b + (r' * 2 ^ k + q) := by
    rw [hr1, Nat.add_mul, Nat.pow_add, Nat.mul_assoc, Nat.mul_comm b]; omega
  refine ⟨2 * q + b, r', ?_, by rw [hm']; exact hr2, by rw [Nat.pow_succ]; omega, ?_⟩
  · rw [hm', hx, hr1, Nat.add_mul]
    have : q * (2 ^ m * 2) = 2 * q * 2 ^ m := by rw [Nat.mul_comm (2 ^ m), ← Nat.mul_assoc, Nat.mul_comm q 2]
    omega
  · have d : (r * 2 ^ k + q) / 2 ^ (n - 1) = b := by
      rw [show n - 1 = m + k by omega, s2, Nat.mul_add_div (Nat.pow_pos (by omega)), Nat.div_eq_of_lt s1]; rfl
    have e : (2 * (r * 2 ^ k + q)) % 2 ^ n = 2 * (r' * 2 ^ k + q) := by
      have e2 : 2 * (r * 2 ^ k + q) = 2 ^ n * b + 2 * (r' * 2 ^ k + q) := by
        have : 2 ^ n * b = 2 * (2 ^ (m + k) * b) := by rw [hn, Nat.pow_succ, Nat.mul_comm (2 ^ (m + k)) 2, Nat.mul_assoc]
        omega
      rw [e2, Nat.mul_add_mod, Nat.mod_eq_of_lt (by rw [hn, Nat.pow_succ]; omega)]
    rw [d, e, Nat.pow_succ, ← Nat.mul_assoc]; omega
theorem turn_loop (n x : Nat) (hn : Wd n) : ∀ (j fuel k y : Nat), j + 100 ≤ fuel → k + j < n → St n k x y → ∃ z : Nat, salternref01_Turn.l0 fuel (y : Int) (n : Int) (j : Int) = some ((z : Int), 0) ∧ St n (k + j) x z
  | 0, fuel, k, y, hf, hk, h => by
    obtain ⟨f, rfl⟩ : ∃ f, fuel = f + 1 := ⟨fuel - 1, by omega⟩
    exact ⟨y, by rw [salternref01_Turn.l0, if_neg (by omega)], h⟩
  | j + 1, fuel, k, y, hf, hk, h => by
    obtain ⟨f, rfl⟩ : ∃ f, fuel = f + 1 := ⟨fuel - 1, by omega⟩
    have hl := hn.le
    have hy := h.lt (by omega)
    have hp := pow_le64 hl.2
    have hp1 : 2 ^ n = 2 ^ (n - 1) * 2 := by rw [← Nat.pow_succ]; congr 1; omega
    have hs := St.step (by omega) h
    have hlt := St.lt (by omega) hs
    obtain ⟨z, hz, hst⟩ := turn_loop n x hn j f (k + 1) ((2 * y) % 2 ^ n + y / 2 ^ (n - 1)) (by omega) (by omega) hs
    refine ⟨z, ?_, by rw [show k + (j + 1) = k + 1 + j by omega]; exact hst⟩
    have e1 : wrap64 ((n : Int) - 1) = ((n - 1 : Nat) : Int) := by rw [t64 _ (by omega)]; omega
    have e2 : IntKind.u64.wrap ((y : Int) * 2) = (((2 * y) % 18446744073709551616 : Nat) : Int) := by rw [IntKind.wrap_u64]; omega
    have e3 : (2 * y) % 18446744073709551616 % 2 ^ n = (2 * y) % 2 ^ n := by
      apply Nat.mod_mod_of_dvd
      have : (18446744073709551616 : Nat) = 2 ^ 64 := by decide
      rw [this]; exact Nat.pow_dvd_pow 2 hl.2
    rw [salternref01_Turn.l0, if_pos (by omega), e1, power_at (n - 1) f (by omega) (by omega), Option.bind_some]
    have hpp : 0 < 2 ^ (n - 1) := Nat.pow_pos (by omega)
    rw [if_neg (by omega), e2, low_at f _ n (by omega) (Nat.mod_lt _ (by omega)) hn, e3, Option.bind_some, Int.tdiv_eq_ediv_of_nonneg (by omega), t64 _ (by omega)]
    have e4 : IntKind.u64.wrap ((((2 * y) % 2 ^ n : Nat) : Int) + IntKind.u64.wrap ((y : Int) / ((2 ^ (n - 1) : Nat) : Int))) = (((2 * y) % 2 ^ n + y / 2 ^ (n - 1) : Nat) : Int) := by
      have hA : (2 * y) % 2 ^ n + y / 2 ^ (n - 1) < 18446744073709551616 := by omega
      rw [← Int.natCast_ediv]
      generalize (2 * y) % 2 ^ n = A at hA ⊢
      generalize y / 2 ^ (n - 1) = B at hA ⊢
      rw [IntKind.wrap_u64, IntKind.wrap_u64]
      omega
    rw [e4, show ((j + 1 : Nat) : Int) - 1 = (j : Int) by omega]
    exact hz
/-- By how much it is turned. -/
theorem and_mod (o : Int) (n e : Nat) (h : n = 2 ^ e) (he : e ≤ 6) (h0 : -9223372036854775808 ≤ o) (h1 : o ≤ 9223372036854775807) :
    Go.bits .and .u64 (IntKind.u64.wrap o) (IntKind.u64.wrap (wrap64 ((n : Int) - 1))) = (((o % (n : Int)).toNat : Nat) : Int) := by
  have hp : 0 < n := by rw [h]; exact Nat.pow_pos (by omega)
  have hp2 : n ≤ 64 := by rw [h]; exact Nat.le_trans (Nat.pow_le_pow_right (by omega) he) (by decide)
  have e1 : IntKind.u64.wrap (wrap64 ((n : Int) - 1)) = ((2 ^ e - 1 : Nat) : Int) := by
    rw [t64 _ (by omega), IntKind.wrap_u64, ← h]; omega
  have e2 : IntKind.u64.wrap o = (((o % 18446744073709551616).toNat : Nat) : Int) := by rw [IntKind.wrap_u64]; omega
  rw [e1, e2, u64_and_nat _ _ (by omega) (by rw [← h]; omega), Nat.and_two_pow_sub_one_eq_mod, ← h]
  have hd : ((18446744073709551616 : Int)) % (n : Int) = 0 := by
    have : e = 0 ∨ e = 1 ∨ e = 2 ∨ e = 3 ∨ e = 4 ∨ e = 5 ∨ e = 6 := by omega
    rcases this with rfl | rfl | rfl | rfl | rfl | rfl | rfl <;> (rw [h]; decide)
  have hm : (o % 18446744073709551616) % (n : Int) = o % (n : Int) := Int.emod_emod_of_dvd o (Int.dvd_of_emod_eq_zero hd)
  rw [Int.natCast_emod, Int.toNat_of_nonneg (by omega), hm, Int.toNat_of_nonneg (Int.emod_nonneg _ (by omega))]
theorem word_at (x n k : Nat) (hn : Wd n) (hx : x < 2 ^ n) (hk : k < n) : ∃ y : Nat, St n k x y ∧
    word_lowest.f (Go.bits .or .u64 (shl .u64 (x : Int) (k : Int)) (shr .u64 (x : Int) (IntKind.u64.wrap ((IntKind.u64.wrap (n : Int)) - (k : Int))))) n = some (y : Int) := by
  have hl := hn.le
  have hp := pow_le64 hl.2
  have hp1 : 0 < 2 ^ (n - k) := Nat.pow_pos (by omega)
  have e64 : (18446744073709551616 : Nat) = 2 ^ 64 := by decide
  obtain ⟨q, r, hqr, hr⟩ : ∃ q r, x = q * 2 ^ (n - k) + r ∧ r < 2 ^ (n - k) := ⟨x / 2 ^ (n - k), x % 2 ^ (n - k), by rw [Nat.mul_comm]; exact (Nat.div_add_mod x _).symm, Nat.mod_lt _ hp1⟩
  have en : 2 ^ n = 2 ^ (n - k) * 2 ^ k := by rw [← Nat.pow_add]; congr 1; omega
  have hxq : x / 2 ^ (n - k) = q := by rw [hqr, Nat.mul_comm, Nat.mul_add_div hp1, Nat.div_eq_of_lt hr]; rfl
  have hq : q < 2 ^ k := by rw [← hxq]; exact Nat.div_lt_of_lt_mul (by rw [← en]; exact hx)
  refine ⟨r * 2 ^ k + q, ⟨q, r, hqr, hr, hq, rfl⟩, ?_⟩
  have s1 : shl .u64 (x : Int) (k : Int) = (((x % 2 ^ (64 - k)) * 2 ^ k : Nat) : Int) := by
    unfold shl
    rw [show min ((k : Int)).toNat IntKind.u64.bits = k by simp [IntKind.bits]; omega, IntKind.wrap_u64]
    have : (x * 2 ^ k) % 18446744073709551616 = (x % 2 ^ (64 - k)) * 2 ^ k := by
      rw [e64, show (2 : Nat) ^ 64 = 2 ^ (64 - k) * 2 ^ k by rw [← Nat.pow_add]; congr 1; omega, Nat.mul_mod_mul_right]
    rw [← this]
    simp
  have s2 : shr .u64 (x : Int) (IntKind.u64.wrap ((IntKind.u64.wrap (n : Int)) - (k : Int))) = (q : Int) := by
    have : IntKind.u64.wrap ((IntKind.u64.wrap (n : Int)) - (k : Int)) = ((n - k : Nat) : Int) := by rw [IntKind.wrap_u64, IntKind.wrap_u64]; omega
    rw [this]
    unfold shr
    rw [show min ((((n - k : Nat) : Int))).toNat IntKind.u64.bits = n - k by simp [IntKind.bits]; omega, ← hxq]
    simp
  have b1 : x % 2 ^ (64 - k) * 2 ^ k < 18446744073709551616 := by
    have h1 : x % 2 ^ (64 - k) < 2 ^ (64 - k) := Nat.mod_lt _ (Nat.pow_pos (by omega))
    have : (x % 2 ^ (64 - k) + 1) * 2 ^ k ≤ 2 ^ (64 - k) * 2 ^ k := Nat.mul_le_mul_right _ h1
    rw [Nat.add_mul, ← Nat.pow_add, show 64 - k + k = 64 by omega, ← e64] at this
    have := Nat.pow_pos (n := k) (show 0 < 2 by omega)
    omega
  have b2 : q < 18446744073709551616 := by
    have := Nat.pow_le_pow_right (show 0 < 2 by omega) (show k ≤ 64 by omega)
    rw [← e64] at this; omega
  have or1 : x % 2 ^ (64 - k) * 2 ^ k ||| q = x % 2 ^ (64 - k) * 2 ^ k + q := by
    have := Nat.shiftLeft_add_eq_or_of_lt hq (x % 2 ^ (64 - k))
    rw [Nat.shiftLeft_eq] at this
    exact this.symm
  have orlt : x % 2 ^ (64 - k) * 2 ^ k ||| q < 18446744073709551616 := by rw [e64]; exact Nat.or_lt_two_pow (by rw [← e64]; exact b1) (by rw [← e64]; exact b2)
  rw [s1, s2, u64_or_nat _ _ b1 b2, lowest_at _ n orlt hn, or1]
  congr 2
  -- the low n bits
  have m1 : (x % 2 ^ (64 - k) * 2 ^ k) % 2 ^ n = r * 2 ^ k := by
    rw [en, Nat.mul_mod_mul_right]
    congr 1
    rw [Nat.mod_mod_of_dvd _ (Nat.pow_dvd_pow 2 (by omega)), hqr, Nat.mul_comm, Nat.mul_add_mod, Nat.mod_eq_of_lt hr]
  have m2 : r * 2 ^ k + q < 2 ^ n := St.lt (by omega) ⟨q, r, hqr, hr, hq, rfl⟩
  rw [Nat.add_mod, m1, Nat.mod_eq_of_lt (show q < 2 ^ n by omega), Nat.mod_eq_of_lt m2]
theorem turn_wd (x n : Nat) (o : Int) (hx : x < 18446744073709551616) (hn : Wd n) (h0 : -9223372036854775808 ≤ o) (h1 : o ≤ 9223372036854775807) :
    ∃ y : Int, word_Turn.f x n o = some (y, 0) ∧ salternref01_Turn.f 200 x n o = some (y, 0) := by
  have hl := hn.le
  have hw : word_width.f (n : Int) = some 0 := by rcases hn with rfl | rfl | rfl | rfl <;> rfl
  have hw2 : salternref01_Width.f (n : Int) = some true := by rcases hn with rfl | rfl | rfl | rfl <;> rfl
  obtain ⟨e, he, he6⟩ : ∃ e, n = 2 ^ e ∧ e ≤ 6 := by
    rcases hn with rfl | rfl | rfl | rfl
    · exact ⟨3, rfl, by omega⟩
    · exact ⟨4, rfl, by omega⟩
    · exact ⟨5, rfl, by omega⟩
    · exact ⟨6, rfl, by omega⟩
  obtain ⟨k, hk⟩ : ∃ k : Nat, (o % (n : Int)).toNat = k := ⟨_, rfl⟩
  have hkn : k < n := by have := Int.emod_lt_of_pos o (show (0 : Int) < n by omega); omega
  have hko : o % (n : Int) = (k : Int) := by have := Int.emod_nonneg o (show (n : Int) ≠ 0 by omega); omega
  have hx2 : x % 2 ^ n < 2 ^ n := Nat.mod_lt _ (Nat.pow_pos (by omega))
  obtain ⟨y, hs, hy⟩ := word_at (x % 2 ^ n) n k hn hx2 hkn
  refine ⟨y, ?_, ?_⟩
  · unfold word_Turn.f
    rw [hw, Option.bind_some, if_pos rfl, lowest_at x n hx hn, Option.bind_some, and_mod o n e he he6 h0 h1, hk, if_pos (by omega), if_pos (by rw [IntKind.wrap_u64, IntKind.wrap_u64]; omega), hy]
    rfl
  · unfold salternref01_Turn.f
    obtain ⟨z, hz, hst⟩ := turn_loop n (x % 2 ^ n) hn k 199 0 (x % 2 ^ n) (by omega) (by omega) (St.zero hx2)
    rw [Nat.zero_add] at hst
    obtain rfl := St.unique hst hs
    rw [hw2, Option.bind_some, if_pos rfl, low_at 200 x n (by omega) hx hn, Option.bind_some, if_neg (by omega)]
    have hb : -(n : Int) < Int.tmod o n ∧ Int.tmod o n < n := ⟨by have := Int.lt_tmod_of_pos o (show (0 : Int) < n by omega); omega, Int.tmod_lt_of_pos o (by omega)⟩
    have ht : Int.tmod o n = o % n ∨ Int.tmod o n = o % n - n := by
      rw [Int.tmod_eq_emod]; split <;> omega
    by_cases hneg : Int.tmod o n < 0
    · rw [if_pos hneg, t64 _ (by omega), show Int.tmod o (n : Int) + n = (k : Int) by have := Int.emod_nonneg o (show (n : Int) ≠ 0 by omega); omega]
      exact hz
    · rw [if_neg hneg, show Int.tmod o (n : Int) = (k : Int) by omega]
      exact hz
theorem turn_no (x n o : Int) (h : ¬ (n = 8 ∨ n = 16 ∨ n = 32 ∨ n = 64)) : word_Turn.f x n o = some (0, 10) ∧ salternref01_Turn.f 200 x n o = some (0, 10) := by
  have hw : word_width.f n = some 10 := by unfold word_width.f; rw [if_neg (by omega), if_neg (by omega), if_neg (by omega), if_neg (by omega)]
  have hw2 : salternref01_Width.f n = some false := by unfold salternref01_Width.f; rw [if_neg (by omega), if_neg (by omega), if_neg (by omega)]; congr 1; simp; omega
  constructor
  · unfold word_Turn.f; rw [hw]; rfl
  · unfold salternref01_Turn.f; rw [hw2]; rfl
theorem WordTurns : salternlaw01_WordTurns.Pure := by
  intro x n o hx hn ho
  simp [Lit.wf, IntKind.min, IntKind.max, IntKind.signed, IntKind.bits] at hx hn ho
  refine ⟨200, ?_⟩
  unfold salternlaw01_WordTurns.f
  by_cases h : n = 8 ∨ n = 16 ∨ n = 32 ∨ n = 64
  · obtain ⟨m, rfl⟩ : ∃ m : Nat, n = m := ⟨n.toNat, by omega⟩
    obtain ⟨v, rfl⟩ : ∃ v : Nat, x = v := ⟨x.toNat, by omega⟩
    obtain ⟨y, h1, h2⟩ := turn_wd v m o (by omega) (by unfold Wd; omega) (by omega) (by omega)
    rw [h1, h2, tAlive]
    simp
  · obtain ⟨h1, h2⟩ := turn_no x n o h
    rw [h1, h2, tAlive]
    simp
end Go.Proofs.Ytecaiaobbjddeaa.Pure
