import Derived.Test.YtecaiaobbjddeaaK
import Derived.Test.YtecaiaobbjddeaaChecked
/-! Varints: what is read, said of lists; word.Read and the reference's. -/
namespace Go.Proofs.Ytecaiaobbjddeaa
open Go.RowKit
set_option linter.unusedVariables false
set_option linter.unusedSimpArgs false

/-- What stands at place i of a varint whose front is worth x. -/
def vread : List (BitVec 8) → Nat → Nat → Nat × Nat × Nat
  | [], i, _ => (0, i, 11)
  | c :: t, i, x => if (i = 9 ∧ c.toNat ≠ 1) ∨ (c.toNat = 0 ∧ 0 < i) then (0, i, 12) else if c.toNat < 128 then (x + c.toNat % 128 * 128 ^ i, i + 1, 0) else vread t (i + 1) (x + c.toNat % 128 * 128 ^ i)
theorem vread_nil (l : List (BitVec 8)) (k x : Nat) (h : l.length ≤ k) : vread (l.drop k) k x = (0, k, 11) := by
  rw [List.drop_eq_nil_of_le h]; rfl
theorem vread_at (l : List (BitVec 8)) (k x : Nat) (h : k < l.length) : vread (l.drop k) k x =
    if (k = 9 ∧ l[k].toNat ≠ 1) ∨ (l[k].toNat = 0 ∧ 0 < k) then (0, k, 12) else if l[k].toNat < 128 then (x + l[k].toNat % 128 * 128 ^ k, k + 1, 0) else vread (l.drop (k + 1)) (k + 1) (x + l[k].toNat % 128 * 128 ^ k) := by
  rw [List.drop_eq_getElem_cons h, vread]
theorem pow128 (k : Nat) (hk : k ≤ 9) : 128 ^ k ≤ 9223372036854775808 := by
  have := Nat.pow_le_pow_right (show 0 < 128 by omega) hk
  have e : (128 : Nat) ^ 9 = 9223372036854775808 := by decide
  omega
theorem pow128_2 (k : Nat) : (2 : Nat) ^ (7 * k) = 128 ^ k := by rw [Nat.pow_mul]
theorem vnew (c x k : Nat) (hk : k ≤ 9) (hc : c < 256) (h1 : ¬ ((k = 9 ∧ c ≠ 1) ∨ (c = 0 ∧ 0 < k))) (hx : x < 128 ^ k) : x + c % 128 * 128 ^ k < 18446744073709551616 ∧ x + c % 128 * 128 ^ k < 128 ^ (k + 1) := by
  have hm : c % 128 < 128 := Nat.mod_lt _ (by omega)
  have hp : (c % 128 + 1) * 128 ^ k ≤ 128 * 128 ^ k := Nat.mul_le_mul_right _ hm
  rw [Nat.add_mul] at hp
  have e : 128 ^ (k + 1) = 128 * 128 ^ k := by rw [Nat.pow_succ, Nat.mul_comm]
  refine ⟨?_, by omega⟩
  by_cases h9 : k = 9
  · subst h9
    have hc1 : c = 1 := by omega
    subst hc1
    have e9 : (128 : Nat) ^ 9 = 9223372036854775808 := by decide
    rw [e9] at hx ⊢; omega
  · have := pow128 (k + 1) (by omega)
    omega
theorem and127 (c : BitVec 8) : bits .and .u8 (c.toNat : Int) 127 = ((c.toNat % 128 : Nat) : Int) := by
  have := u8_and_nat c.toNat 127 c.isLt (by decide)
  rw [show (127 : Nat) = 2 ^ 7 - 1 from rfl, Nat.and_two_pow_sub_one_eq_mod] at this
  exact this
theorem orAdd (x s k : Nat) (hx : x < 128 ^ k) (hs : x + s * 128 ^ k < 18446744073709551616) : bits .or .u64 (x : Int) ((s * 128 ^ k : Nat) : Int) = ((x + s * 128 ^ k : Nat) : Int) := by
  rw [u64_or_nat _ _ (by omega) (by omega)]
  have := Nat.shiftLeft_add_eq_or_of_lt (i := 7 * k) (b := x) (by rw [pow128_2]; exact hx) s
  rw [Nat.shiftLeft_eq, pow128_2] at this
  rw [Nat.or_comm, ← this, Nat.add_comm]
def readV (r : Nat × Nat × Nat) : Value := .tuple #[.int .u64 (r.1 : Int), .int .i64 (r.2.1 : Int), .int .i64 (r.2.2 : Int)]

set_option maxRecDepth 100000 in
set_option maxHeartbeats 2000000 in
theorem read_any (l : List (BitVec 8)) (A : Option Addr) (n cap : Nat) (w : World) (hn : n = l.length) (hr : RdB w A l) (hl : l.length ≤ cap) :
    Calls Try.prog 17 #[.slice A n cap] w fun e w' => e = .returned (readV (vread l 0 0)) ∧ w = w' := by
  subst hn
  have hlen := hr.1
  have Hr := Lib.hid hr
  clear hr
  go_enter Try.func17, Try.ntmps17
  go_wp2
  go_loop [5, 11] (fun x i => ∃ k X : Nat, k ≤ 9 ∧ k ≤ l.length ∧ X < 128 ^ k ∧ vread (l.drop k) k X = vread l 0 0 ∧ i = .int .i64 k ∧ x = .int .u64 X) (fun _ i => l.length - (intOf i).toNat)
  case atStart => exact ⟨0, 0, by omega, by omega, by simp, rfl, rfl, rfl⟩
  case round =>
    obtain ⟨k, X, hk9, hkl, hX, hv, rfl, rfl⟩ := hrel
    by_cases hlt : k < l.length
    · obtain ⟨ad, rfl, hc⟩ := Hr.out.at' k hlt
      rw [vread_at l k X hlt] at hv
      generalize hC : l[k] = c at hv hc
      clear hC
      have hc8 := c.isLt
      have hand := and127 c
      by_cases h1 : (k = 9 ∧ c.toNat ≠ 1) ∨ (c.toNat = 0 ∧ 0 < k)
      · rw [if_pos h1] at hv
        have Hv := Lib.hid hv
        clear hv
        by_cases h9 : k = 9 ∧ c.toNat ≠ 1
        · have b9 : ((k : Int) == 9) = true := by simp; omega
          have bc : ((c.toNat : Int) != 1) = true := by simp; omega
          clear h1 h9
          go_wp2
          go_ret3
          exact ⟨by rw [← Hv.out]; rfl, rfl⟩
        · have b9 : ((k : Int) == 9) = false := by simp; omega
          have c0 : ((c.toNat : Int) == 0) = true := by simp; omega
          have cl : (decide ((c.toNat : Int) < 128)) = true := by simp; omega
          have k0 : 0 < (k : Int) := by omega
          clear h1 h9
          go_wp2
          go_ret3
          exact ⟨by rw [← Hv.out]; rfl, rfl⟩
      · rw [if_neg h1] at hv
        obtain ⟨n1, n2⟩ := vnew c.toNat X k hk9 hc8 h1 hX
        have hor := orAdd X (c.toNat % 128) k hX n1
        obtain ⟨N, hN⟩ : ∃ N, X + c.toNat % 128 * 128 ^ k = N := ⟨_, rfl⟩
        obtain ⟨S, hS⟩ : ∃ S, c.toNat % 128 * 128 ^ k = S := ⟨_, rfl⟩
        rw [hN] at hv n1 n2
        have hSb : S < 18446744073709551616 := by omega
        rw [hS] at hor hN
        rw [hN] at hor
        have hsh : IntKind.u64.wrap (((c.toNat % 128 : Nat) : Int) * 2 ^ (7 * k)) = (S : Int) := by
          have e : ((c.toNat % 128 : Nat) : Int) * 2 ^ (7 * k) = (S : Int) := by rw [← hS, ← pow128_2]; push_cast; rfl
          rw [e, IntKind.wrap_u64]; omega
        have h7 : ((7 : Int) * (k : Int)).toNat = 7 * k := by omega
        obtain ⟨m, hm⟩ : ∃ m : Nat, c.toNat % 128 = m := ⟨_, rfl⟩
        have hm128 : m < 128 := by omega
        rw [hm] at hand hsh
        have HN := Lib.hid hN
        have HS := Lib.hid hS
        have Hm := Lib.hid hm
        clear hN hS hm
        by_cases hl8 : c.toNat < 128
        · rw [if_pos hl8] at hv
          have Hv := Lib.hid hv
          clear hv
          have cl : (decide ((c.toNat : Int) < 128)) = true := by simp; omega
          by_cases k9 : k = 9
          · have b9 : ((k : Int) == 9) = true := by simp; omega
            have bc : ((c.toNat : Int) != 1) = false := by simp; omega
            have c0 : ((c.toNat : Int) == 0) = false := by simp; omega
            have HH := Lib.hid (And.intro h1 (And.intro k9 hl8))
            clear h1 k9 hl8
            go_wp2
            go_ret3
            exact ⟨by rw [← Hv.out]; rfl, rfl⟩
          · have b9 : ((k : Int) == 9) = false := by simp; omega
            by_cases z : c.toNat = 0
            · have c0 : ((c.toNat : Int) == 0) = true := by simp; omega
              have k0 : ¬ (0 < (k : Int)) := by omega
              have HH := Lib.hid (And.intro h1 (And.intro k9 (And.intro hl8 z)))
              clear h1 k9 hl8 z
              go_wp2
              go_ret3
              exact ⟨by rw [← Hv.out]; rfl, rfl⟩
            · have c0 : ((c.toNat : Int) == 0) = false := by simp; omega
              have HH := Lib.hid (And.intro h1 (And.intro k9 (And.intro hl8 z)))
              clear h1 k9 hl8 z
              go_wp2
              go_ret3
              exact ⟨by rw [← Hv.out]; rfl, rfl⟩
        · rw [if_neg hl8] at hv
          have hk8 : k ≤ 8 := by omega
          have b9 : ((k : Int) == 9) = false := by simp; omega
          have cl : (decide ((c.toNat : Int) < 128)) = false := by simp; omega
          have HV := Lib.hid hv
          have HH := Lib.hid (And.intro h1 hl8)
          clear h1 hl8 hv
          go_wp2
          go_round
          case rel => exact ⟨k + 1, N, by omega, by omega, n2, HV.out, by go_num, rfl⟩
          case measure => simp [intOf]; omega
    · have hke : l.length ≤ k := by omega
      rw [vread_nil l k X hke] at hv
      have Hv := Lib.hid hv
      clear hv
      have hke2 := Lib.hid (show k = l.length by omega)
      go_wp2
      go_ret3
      exact ⟨by rw [← Hv.out, hke2.out]; rfl, rfl⟩
set_option maxRecDepth 100000 in
set_option maxHeartbeats 2000000 in
theorem rread_any (l : List (BitVec 8)) (A : Option Addr) (n cap : Nat) (w : World) (hn : n = l.length) (hr : RdB w A l) (hl : l.length ≤ cap) :
    Calls Try.prog 18 #[.slice A n cap] w fun e w' => e = .returned (readV (vread l 0 0)) ∧ w = w' := by
  subst hn
  have hlen := hr.1
  have Hr := Lib.hid hr
  clear hr
  go_enter Try.func18, Try.ntmps18
  go_wp2
  go_loop [5, 6, 7] (fun x sc i => ∃ k X Q : Nat, k ≤ 9 ∧ k ≤ l.length ∧ X < 128 ^ k ∧ vread (l.drop k) k X = vread l 0 0 ∧ Q = 128 ^ k ∧ i = .int .i64 k ∧ x = .int .u64 X ∧ sc = .int .u64 Q) (fun _ _ i => l.length - (intOf i).toNat)
  case atStart => exact ⟨0, 0, 1, by omega, by omega, by simp, rfl, rfl, rfl, rfl, rfl⟩
  case round =>
    obtain ⟨k, X, Q, hk9, hkl, hX, hv, hQ, rfl, rfl, rfl⟩ := hrel
    have hQ9 : Q ≤ 9223372036854775808 := by rw [hQ]; exact pow128 k hk9
    have HQ := Lib.hid hQ
    clear hQ
    by_cases hlt : k < l.length
    · obtain ⟨ad, rfl, hc⟩ := Hr.out.at' k hlt
      rw [vread_at l k X hlt] at hv
      generalize hC : l[k] = c at hv hc
      clear hC
      have hc8 := c.isLt
      have hand : (c.toNat : Int).tmod 128 = ((c.toNat % 128 : Nat) : Int) := by rw [Int.tmod_eq_emod_of_nonneg (by omega)]; omega
      by_cases h1 : (k = 9 ∧ c.toNat ≠ 1) ∨ (c.toNat = 0 ∧ 0 < k)
      · rw [if_pos h1] at hv
        have Hv := Lib.hid hv
        clear hv
        by_cases h9 : k = 9 ∧ c.toNat ≠ 1
        · have b9 : ((k : Int) == 9) = true := by simp; omega
          have bc : ((c.toNat : Int) != 1) = true := by simp; omega
          clear h1 h9
          go_wp2
          all_goals
            go_ret3
            exact ⟨by rw [← Hv.out]; rfl, rfl⟩
        · have b9 : ((k : Int) == 9) = false := by simp; omega
          have c0 : ((c.toNat : Int) == 0) = true := by simp; omega
          have cl : (decide ((c.toNat : Int) < 128)) = true := by simp; omega
          have k0 : 0 < (k : Int) := by omega
          clear h1 h9
          go_wp2
          all_goals
            go_ret3
            exact ⟨by rw [← Hv.out]; rfl, rfl⟩
      · rw [if_neg h1] at hv
        obtain ⟨n1, n2⟩ := vnew c.toNat X k hk9 hc8 h1 hX
        obtain ⟨N, hN⟩ : ∃ N, X + c.toNat % 128 * 128 ^ k = N := ⟨_, rfl⟩
        obtain ⟨S, hS⟩ : ∃ S, c.toNat % 128 * 128 ^ k = S := ⟨_, rfl⟩
        rw [hN] at hv n1 n2
        have hSb : S < 18446744073709551616 := by omega
        rw [hS] at hN
        have hmul : IntKind.u64.wrap (((c.toNat % 128 : Nat) : Int) * (Q : Int)) = (S : Int) := by
          have e : ((c.toNat % 128 : Nat) : Int) * (Q : Int) = (S : Int) := by rw [← hS, ← HQ.out]; exact (Int.natCast_mul _ _).symm
          rw [e, IntKind.wrap_u64]; omega
        have hadd : IntKind.u64.wrap ((X : Int) + (S : Int)) = (N : Int) := by rw [IntKind.wrap_u64]; omega
        obtain ⟨m, hm⟩ : ∃ m : Nat, c.toNat % 128 = m := ⟨_, rfl⟩
        have hm128 : m < 128 := by omega
        rw [hm] at hand hmul
        have HN := Lib.hid hN
        have HS := Lib.hid hS
        have Hm := Lib.hid hm
        clear hN hS hm
        by_cases hl8 : c.toNat < 128
        · rw [if_pos hl8] at hv
          have Hv := Lib.hid hv
          clear hv
          have cl : (decide ((c.toNat : Int) < 128)) = true := by simp; omega
          by_cases k9 : k = 9
          · have b9 : ((k : Int) == 9) = true := by simp; omega
            have bc : ((c.toNat : Int) != 1) = false := by simp; omega
            have c0 : ((c.toNat : Int) == 0) = false := by simp; omega
            have HH := Lib.hid (And.intro h1 (And.intro k9 hl8))
            clear h1 k9 hl8
            go_wp2
            all_goals
              go_ret3
              exact ⟨by rw [← Hv.out]; rfl, rfl⟩
          · have b9 : ((k : Int) == 9) = false := by simp; omega
            by_cases z : c.toNat = 0
            · have c0 : ((c.toNat : Int) == 0) = true := by simp; omega
              have k0 : ¬ (0 < (k : Int)) := by omega
              have HH := Lib.hid (And.intro h1 (And.intro k9 (And.intro hl8 z)))
              clear h1 k9 hl8 z
              go_wp2
              all_goals
                go_ret3
                exact ⟨by rw [← Hv.out]; rfl, rfl⟩
            · have c0 : ((c.toNat : Int) == 0) = false := by simp; omega
              have HH := Lib.hid (And.intro h1 (And.intro k9 (And.intro hl8 z)))
              clear h1 k9 hl8 z
              go_wp2
              all_goals
                go_ret3
                exact ⟨by rw [← Hv.out]; rfl, rfl⟩
        · rw [if_neg hl8] at hv
          have hk8 : k ≤ 8 := by omega
          have hq8 : Q * 128 = 128 ^ (k + 1) := by rw [HQ.out, Nat.pow_succ]
          have hq9 := pow128 (k + 1) (by omega)
          have hsc : IntKind.u64.wrap ((Q : Int) * 128) = ((Q * 128 : Nat) : Int) := by rw [IntKind.wrap_u64]; omega
          obtain ⟨Q2, hQ2⟩ : ∃ Q2, Q * 128 = Q2 := ⟨_, rfl⟩
          rw [hQ2] at hsc
          have HQ2 := Lib.hid (hQ2.symm.trans hq8)
          clear hq8 hq9 hQ2
          have b9 : ((k : Int) == 9) = false := by simp; omega
          have cl : (decide ((c.toNat : Int) < 128)) = false := by simp; omega
          have c0 : ((c.toNat : Int) == 0) = false := by simp; omega
          have HV := Lib.hid hv
          have HH := Lib.hid (And.intro h1 hl8)
          clear h1 hl8 hv
          have hz : (k : Int) ≤ 0 ∨ 0 < (k : Int) := by omega
          rcases hz with hz | hz
          · go_wp2
            go_round
            case rel => exact ⟨k + 1, N, Q2, by omega, by omega, n2, HV.out, HQ2.out, by go_num, rfl, rfl⟩
            case measure => simp [intOf]; omega
          · go_wp2
            go_round
            case rel => exact ⟨k + 1, N, Q2, by omega, by omega, n2, HV.out, HQ2.out, by go_num, rfl, rfl⟩
            case measure => simp [intOf]; omega
    · have hke : l.length ≤ k := by omega
      rw [vread_nil l k X hke] at hv
      have Hv := Lib.hid hv
      clear hv
      have hke2 := Lib.hid (show k = l.length by omega)
      go_wp2
      all_goals
        go_ret3
        exact ⟨by rw [← Hv.out, hke2.out]; rfl, rfl⟩
end Go.Proofs.Ytecaiaobbjddeaa
