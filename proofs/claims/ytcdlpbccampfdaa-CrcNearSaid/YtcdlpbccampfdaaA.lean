import Derived.Test.YtcdlpbccampfdaaProg
import Derived.Test.YtcdlpbccampfdaaM
import Derived.WalkKit
import Derived.WalkLawsBesides
import Derived.KernelRfl
import Derived.Lib.Hide
/-! The walks of the functions that only reckon: crc.Entry, in, out, zeros and the reference's in, out, Entry. -/
namespace Go.Proofs.Ytcdlpbccampfdaa
open Go.RowKit
set_option linter.unusedVariables false
set_option linter.unusedSimpArgs false
open M

theorem xor32 (a b : BitVec 32) : bits .xor .u32 (a.toNat : Int) (b.toNat : Int) = ((a ^^^ b).toNat : Int) := by rw [u32_xor_nat _ _ a.isLt b.isLt]; simp
theorem and1 (r : BitVec 32) : bits .and .u32 (r.toNat : Int) 1 = if r.getLsbD 0 then 1 else 0 := by
  rw [show (1 : Int) = ((1 : Nat) : Int) from rfl, u32_and_nat _ _ r.isLt (by omega), Nat.and_one_is_mod]
  rw [BitVec.getLsbD, Nat.testBit_zero]
  rcases Nat.mod_two_eq_zero_or_one r.toNat with h | h <;> simp [h]
theorem shr1 (r : BitVec 32) : (r.toNat : Int) / (2 : Int) = ((r >>> 1).toNat : Int) := by
  rw [BitVec.toNat_ushiftRight, Nat.shiftRight_eq_div_pow]; omega
theorem step_one (r : BitVec 32) (h : r.getLsbD 0 = true) : bits .xor .u32 ((r.toNat : Int) / 2) 2197175160 = ((M.step r).toNat : Int) := by
  rw [shr1, show (2197175160 : Int) = (poly.toNat : Int) from rfl, xor32]; unfold M.step; rw [h]; simp
theorem step_nul (r : BitVec 32) (h : r.getLsbD 0 = false) : (r.toNat : Int) / (2 : Int) = ((M.step r).toNat : Int) := by
  rw [shr1]; unfold M.step; rw [h]; simp
theorem ret_int {k : IntKind} {a b : Int} (h : a = b) : Ending.returned (.int k a) = .returned (.int k b) := by rw [h]

theorem entry_any (b : BitVec 8) (w : World) :
    Calls Try.prog 14 #[.int .u8 b.toNat] w fun e w' => e = .returned (.int .u32 (entryC b).toNat) ∧ w = w' := by
  have hb := b.isLt
  go_enter Try.func14, Try.ntmps14
  go_wp2
  go_loop [3, 6] (fun r i => ∃ k : Nat, k ≤ 8 ∧ i = .int .i64 k ∧ r = .int .u32 (stepN k (b.setWidth 32)).toNat) (fun _ i => 8 - (intOf i).toNat)
  case atStart => exact ⟨0, Nat.zero_le _, rfl, by simp [stepN]; omega⟩
  case round =>
    obtain ⟨k, hk, rfl, rfl⟩ := hrel
    by_cases hlt : k < 8
    · cases hl : (stepN k (b.setWidth 32)).getLsbD 0
      · have h1 := and1 (stepN k (b.setWidth 32))
        rw [hl] at h1
        have H := Lib.hid (step_nul _ hl)
        have hz : (bits .and .u32 ((stepN k (b.setWidth 32)).toNat : Int) 1 == 1) = false := by rw [h1]; rfl
        clear h1 hl
        go_wp2
        go_round
        case rel => exact ⟨k + 1, by omega, by go_num, by rw [stepN, ← H.out]⟩
        case measure => simp [intOf]; omega
      · have h1 := and1 (stepN k (b.setWidth 32))
        rw [hl] at h1
        have H := Lib.hid (step_one _ hl)
        have hz : (bits .and .u32 ((stepN k (b.setWidth 32)).toNat : Int) 1 == 1) = true := by rw [h1]; rfl
        clear h1 hl
        go_wp2
        go_round
        case rel => exact ⟨k + 1, by omega, by go_num, by rw [stepN, ← H.out]⟩
        case measure => simp [intOf]; omega
    · have hk8 : k = 8 := by omega
      subst hk8
      go_wp2
      go_ret
      exact ⟨rfl, rfl⟩

theorem xor8 (a b : BitVec 8) : bits .xor .u8 (a.toNat : Int) (b.toNat : Int) = ((a ^^^ b).toNat : Int) := by rw [u8_xor_nat _ _ a.isLt b.isLt]; simp
theorem low8 (r : BitVec 32) : (r.toNat : Int) % (256 : Int) = ((r.setWidth 8).toNat : Int) := by simp
theorem shr8 (r : BitVec 32) : (r.toNat : Int) / (256 : Int) = ((r >>> 8).toNat : Int) := by
  rw [BitVec.toNat_ushiftRight, Nat.shiftRight_eq_div_pow]; omega

theorem in_any (r : BitVec 32) (b : BitVec 8) (w : World) :
    Calls Try.prog 23 #[.int .u32 r.toNat, .int .u8 b.toNat] w fun e w' => e = .returned (.int .u32 (inC r b).toNat) ∧ w = w' := by
  have hr := r.isLt
  have hb := b.isLt
  go_enter Try.func23, Try.ntmps23
  go_wp2_with fail
  rw [low8, xor8]
  refine (entry_any _ _).mono ?_
  rintro e w' ⟨rfl, rfl⟩
  go_wp2
  go_ret
  exact ⟨ret_int (by rw [shr8, xor32, in_entry]), rfl⟩

theorem rin_ne (r : BitVec 32) (b : BitVec 8) (h : (r.getLsbD 0 != b.getLsbD 0) = true) : ((r.toNat : Int) % (2 : Int) != (b.toNat : Int) % (2 : Int)) = true := by
  rw [BitVec.getLsbD, BitVec.getLsbD, Nat.testBit_zero, Nat.testBit_zero] at h
  rw [bne_iff_ne]
  rcases Nat.mod_two_eq_zero_or_one r.toNat with h1 | h1 <;> rcases Nat.mod_two_eq_zero_or_one b.toNat with h2 | h2 <;> simp [h1, h2] at h ⊢ <;> omega
theorem rin_eq (r : BitVec 32) (b : BitVec 8) (h : (r.getLsbD 0 != b.getLsbD 0) = false) : ((r.toNat : Int) % (2 : Int) != (b.toNat : Int) % (2 : Int)) = false := by
  rw [BitVec.getLsbD, BitVec.getLsbD, Nat.testBit_zero, Nat.testBit_zero] at h
  rw [bne_eq_false_iff_eq]
  rcases Nat.mod_two_eq_zero_or_one r.toNat with h1 | h1 <;> rcases Nat.mod_two_eq_zero_or_one b.toNat with h2 | h2 <;> simp [h1, h2] at h ⊢ <;> omega
/-- What is left of a byte: a name that the walk's simp doesn't open. -/
def bsh (b : BitVec 8) (k : Nat) : BitVec 8 := b >>> k
theorem shrb (b : BitVec 8) (k : Nat) : ((bsh b k).toNat : Int) / (2 : Int) = ((bsh b (k + 1)).toNat : Int) := by
  unfold bsh
  rw [BitVec.toNat_ushiftRight, BitVec.toNat_ushiftRight, Nat.shiftRight_eq_div_pow, Nat.shiftRight_eq_div_pow, Nat.pow_succ, ← Nat.div_div_eq_div_mul]; omega

theorem rin_any (r : BitVec 32) (b : BitVec 8) (w : World) :
    Calls Try.prog 24 #[.int .u32 r.toNat, .int .u8 b.toNat] w fun e w' => e = .returned (.int .u32 (inC r b).toNat) ∧ w = w' := by
  go_enter Try.func24, Try.ntmps24
  go_wp2
  go_loop [0, 1, 5, 6] (fun r' b' i one => ∃ k : Nat, k ≤ 8 ∧ i = .int .i64 k ∧ r' = .int .u32 (rinN k r b).toNat ∧ b' = .int .u8 (bsh b k).toNat) (fun _ _ i _ => 8 - (intOf i).toNat)
  case atStart => exact ⟨0, Nat.zero_le _, rfl, rfl, by simp [bsh]⟩
  case round =>
    obtain ⟨k, hk, rfl, rfl, rfl⟩ := hrel
    by_cases hlt : k < 8
    · have hb : (bsh b k).toNat < 256 := (bsh b k).isLt
      have hr : (rinN k r b).toNat < 4294967296 := (rinN k r b).isLt
      have H2 := Lib.hid (shrb b k)
      cases hl : ((rinN k r b).getLsbD 0 != (bsh b k).getLsbD 0)
      · have hz := rin_eq _ _ hl
        have H : Hid (rinN (k + 1) r b = rinN k r b >>> 1) := by show rinS (rinN k r b) (bsh b k) = _; unfold rinS; rw [hl]; rfl
        clear hl
        go_wp2
        go_round
        case rel => exact ⟨k + 1, by omega, by go_num, by rw [H.out, ← shr1], by rw [← H2.out]⟩
        case measure => simp [intOf]; omega
      · have hz := rin_ne _ _ hl
        have H : Hid (rinN (k + 1) r b = rinN k r b >>> 1 ^^^ poly) := by show rinS (rinN k r b) (bsh b k) = _; unfold rinS; rw [hl]; rfl
        clear hl
        go_wp2
        go_round
        case rel => exact ⟨k + 1, by omega, by go_num, by rw [H.out, shr1, show (2197175160 : Int) = (poly.toNat : Int) from rfl, xor32], by rw [← H2.out]⟩
        case measure => simp [intOf]; omega
    · have H := Lib.hid (rin_all r b)
      go_wp2
      go_ret
      obtain rfl : k = 8 := by omega
      exact ⟨ret_int (by rw [H.out]), rfl⟩

theorem rentry_any (b : BitVec 8) (w : World) :
    Calls Try.prog 15 #[.int .u8 b.toNat] w fun e w' => e = .returned (.int .u32 (entryC b).toNat) ∧ w = w' := by
  go_enter Try.func15, Try.ntmps15
  go_wp2_with fail
  refine (rin_any 0#32 b _).mono ?_
  rintro e w' ⟨rfl, rfl⟩
  go_wp2
  go_ret
  exact ⟨ret_int (by unfold inC entryC; rw [BitVec.zero_xor]), rfl⟩

theorem msb_shr (r : BitVec 32) : (r.toNat : Int) / (2147483648 : Int) = if r.getLsbD 31 then 1 else 0 := by
  have h := r.isLt
  have e : r.getLsbD 31 = decide (2147483648 ≤ r.toNat) := by
    rw [BitVec.getLsbD, Nat.testBit_eq_decide_div_mod_eq]
    by_cases g : 2147483648 ≤ r.toNat
    · simp only [g, decide_true]; rw [show r.toNat / 2 ^ 31 % 2 = 1 by omega]; rfl
    · simp only [g, decide_false]; rw [show r.toNat / 2 ^ 31 % 2 = 0 by omega]; rfl
  rw [e]
  by_cases g : 2147483648 ≤ r.toNat
  · simp only [g, decide_true, if_true]; omega
  · simp [g]; omega
theorem shl1 (r : BitVec 32) : (r.toNat : Int) * (2 : Int) % (4294967296 : Int) = ((r <<< 1).toNat : Int) := by
  rw [BitVec.toNat_shiftLeft, Nat.shiftLeft_eq]; omega
theorem shl1s (r : BitVec 32) (h : (r.toNat : Int) < 2147483648) : (r.toNat : Int) * (2 : Int) = ((r <<< 1).toNat : Int) := by
  rw [← shl1]; omega
theorem or32 (a b : BitVec 32) : bits .or .u32 (a.toNat : Int) (b.toNat : Int) = ((a ||| b).toNat : Int) := by rw [u32_or_nat _ _ a.isLt b.isLt]; simp
theorem back_one (r : BitVec 32) (h : r.getLsbD 31 = true) : bits .or .u32 (bits .xor .u32 (r.toNat : Int) 2197175160 * 2 % 4294967296) 1 = ((back r).toNat : Int) := by
  rw [show (2197175160 : Int) = (poly.toNat : Int) from rfl, xor32, shl1, show (1 : Int) = ((1#32).toNat : Int) from rfl, or32]; unfold back; rw [h]; simp
theorem back_nul (r : BitVec 32) (h : r.getLsbD 31 = false) : (r.toNat : Int) * 2 % 4294967296 = ((back r).toNat : Int) := by
  rw [shl1]; unfold back; rw [h]; simp

theorem out_any (r : BitVec 32) (w : World) :
    Calls Try.prog 26 #[.int .u32 r.toNat] w fun e w' => e = .returned (.int .u32 (backN 8 r).toNat) ∧ w = w' := by
  go_enter Try.func26, Try.ntmps26
  go_wp2
  go_loop [0, 3] (fun r' i => ∃ k : Nat, k ≤ 8 ∧ i = .int .i64 k ∧ r' = .int .u32 (backN k r).toNat) (fun _ i => 8 - (intOf i).toNat)
  case atStart => exact ⟨0, Nat.zero_le _, rfl, rfl⟩
  case round =>
    obtain ⟨k, hk, rfl, rfl⟩ := hrel
    by_cases hlt : k < 8
    · cases hl : (backN k r).getLsbD 31
      · have h1 := msb_shr (backN k r)
        rw [hl] at h1
        have H := Lib.hid (back_nul _ hl)
        have hz : ((backN k r).toNat / (2147483648 : Int) == 1) = false := by rw [h1]; rfl
        clear h1 hl
        go_wp2
        go_round
        case rel => exact ⟨k + 1, by omega, by go_num, by rw [backN, ← H.out]⟩
        case measure => simp [intOf]; omega
      · have h1 := msb_shr (backN k r)
        rw [hl] at h1
        have H := Lib.hid (back_one _ hl)
        have hz : ((backN k r).toNat / (2147483648 : Int) == 1) = true := by rw [h1]; rfl
        clear h1 hl
        go_wp2
        go_round
        case rel => exact ⟨k + 1, by omega, by go_num, by rw [backN, ← H.out]⟩
        case measure => simp [intOf]; omega
    · go_wp2
      go_ret
      obtain rfl : k = 8 := by omega
      exact ⟨rfl, rfl⟩

theorem bit_of (b : BitVec 8) (n : Nat) (V : Int) (h : (b.toNat : Int) / 2 ^ n = V) : V % (2 : Int) = ((bitOf b n).toNat : Int) := by
  rw [← h]
  unfold bitOf
  rw [BitVec.getLsbD, Nat.testBit_eq_decide_div_mod_eq]
  have e : (b.toNat : Int) / 2 ^ n % (2 : Int) = ((b.toNat / 2 ^ n % 2 : Nat) : Int) := by simp
  rw [e]
  rcases Nat.mod_two_eq_zero_or_one (b.toNat / 2 ^ n) with g | g <;> rw [g] <;> rfl
theorem rout_step (r : BitVec 32) (b : BitVec 8) (c : Int) (h0 : 0 ≤ c) (h1 : c ≤ 7) : routN (7 - (c - 1)).toNat r b = routS (routN (7 - c).toNat r b) (bitOf b c.toNat) := by
  rw [show (7 - (c - 1)).toNat = (7 - c).toNat + 1 by omega, routN, show 7 - (7 - c).toNat = c.toNat by omega]
set_option maxRecDepth 10000 in
theorem rout_any (r : BitVec 32) (b : BitVec 8) (w : World) :
    Calls Try.prog 28 #[.int .u32 r.toNat, .int .u8 b.toNat] w fun e w' => e = .returned (.int .u32 (outC r b).toNat) ∧ w = w' := by
  have hb : b.toNat < 256 := b.isLt
  go_enter Try.func28, Try.ntmps28
  go_wp2
  go_loop [0, 5, 6] (fun r' i bit => ∃ c : Int, -1 ≤ c ∧ c ≤ 7 ∧ i = .int .i64 c ∧ r' = .int .u32 (routN (7 - c).toNat r b).toNat) (fun _ i _ => (intOf i + 1).toNat)
  case atStart => exact ⟨7, by omega, by omega, rfl, rfl⟩
  case round =>
    obtain ⟨c, hc0, hc1, rfl, rfl⟩ := hrel
    by_cases hlt : 0 ≤ c
    · have HS := Lib.hid (rout_step r b c hlt hc1)
      obtain ⟨R, hR⟩ : ∃ R, R = routN (7 - c).toNat r b := ⟨_, rfl⟩
      rw [← hR]
      have HR := Lib.hid hR
      clear hR
      have hr : R.toNat < 4294967296 := R.isLt
      obtain ⟨V, hV⟩ : ∃ V, (b.toNat : Int) / 2 ^ c.toNat = V := ⟨_, rfl⟩
      have hV0 : 0 ≤ V := by rw [← hV]; exact Int.ediv_nonneg (by omega) (Int.le_of_lt (Int.pow_pos (by omega)))
      have hV1 : V < 256 := by
        rw [← hV]
        exact Int.lt_of_le_of_lt (Int.ediv_le_self _ (by omega)) (by omega)
      have HV := Lib.hid (bit_of b c.toNat V hV)
      by_cases hm : (2147483648 : Int) ≤ (R.toNat : Int)
      · have hm1 : decide ((2147483648 : Int) ≤ (R.toNat : Int)) = true := decide_eq_true hm
        have H31 : Hid (R.getLsbD 31 = true) := by
          have := msb_shr R
          cases hl : R.getLsbD 31
          · rw [hl] at this; simp at this; omega
          · rfl
        go_wp2
        go_round
        case rel =>
          refine ⟨c - 1, by omega, by omega, rfl, ?_⟩
          rw [HS.out, ← HR.out, HV.out]
          unfold routS
          rw [H31.out, show (2197175160 : Int) = (poly.toNat : Int) from rfl, xor32, shl1, show (1 : Int) = ((1#32).toNat : Int) from rfl, or32, xor32]
          rfl
        case measure => simp [intOf]; omega
      · have hm1 : decide ((2147483648 : Int) ≤ (R.toNat : Int)) = false := decide_eq_false hm
        have H31 : Hid (R.getLsbD 31 = false) := by
          have := msb_shr R
          cases hl : R.getLsbD 31
          · rfl
          · rw [hl] at this; simp at this; omega
        go_wp2
        go_round
        case rel =>
          refine ⟨c - 1, by omega, by omega, rfl, ?_⟩
          rw [HS.out, ← HR.out, HV.out]
          unfold routS
          rw [H31.out, shl1s R (by omega), or32]
          rfl
        case measure => simp [intOf]; omega
    · go_wp2
      go_ret
      obtain rfl : c = -1 := by omega
      exact ⟨ret_int (by rw [← rout_all]; rfl), rfl⟩

theorem zeros_any (r : BitVec 32) (n : Int) (w : World) (h0 : 0 ≤ n) (h1 : n ≤ 65536) :
    Calls Try.prog 25 #[.int .u32 r.toNat, .int .i64 n] w fun e w' => e = .returned (.int .u32 (zeros r n.toNat).toNat) ∧ w = w' := by
  go_enter Try.func25, Try.ntmps25
  go_wp2
  go_loop [0, 6] (fun r' i => ∃ k : Nat, k ≤ n ∧ i = .int .i64 k ∧ r' = .int .u32 (zeros r k).toNat) (fun _ i => (n - intOf i).toNat)
  case atStart => exact ⟨0, by omega, rfl, rfl⟩
  case round =>
    obtain ⟨k, hk, rfl, rfl⟩ := hrel
    by_cases hlt : (k : Int) < n
    · go_wp2_with (go_at_call 23; refine (in_any (zeros r k) 0#8 _).mono ?_; rintro e w' ⟨rfl, rfl⟩)
      go_round
      case rel => exact ⟨k + 1, by omega, by go_num, rfl⟩
      case measure => simp [intOf]; omega
    · go_wp2
      go_ret
      obtain rfl : n = k := by omega
      exact ⟨rfl, rfl⟩

theorem cat_any (a b : BitVec 32) (n : Int) (w : World) (h0 : 0 ≤ n) (h1 : n ≤ 65536) :
    Calls Try.prog 18 #[.int .u32 a.toNat, .int .u32 b.toNat, .int .i64 n] w fun e w' => e = .returned (.tuple #[.int .u32 (zeros a n.toNat ^^^ b).toNat, .int .i64 0]) ∧ w = w' := by
  go_enter Try.func18, Try.ntmps18
  go_wp2_with (go_at_call 25; refine (zeros_any a n _ h0 h1).mono ?_; rintro e w' ⟨rfl, rfl⟩)
  go_ret2
  exact ⟨by rw [xor32]; rfl, rfl⟩
end Go.Proofs.Ytcdlpbccampfdaa
