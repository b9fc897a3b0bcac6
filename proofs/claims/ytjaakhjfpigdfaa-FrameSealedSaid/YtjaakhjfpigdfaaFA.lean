import Derived.Test.YtjaakhjfpigdfaaG
/-! Frames: varints: what is read, said of lists; word.Read and the reference's. -/
namespace Go.Proofs.Ytjaakhjfpigdfaa
open Go.RowKit
set_option linter.unusedVariables false
set_option linter.unusedSimpArgs false

/-- What stands at place i of a varint whose front is worth x. -/
def vread : List (BitVec 8) → Nat → Nat → Nat × Nat × Nat
  | [], i, _ => (0, i, 11)
  | c :: t, i, x => if (i = 9 ∧ c.toNat ≠ 1) ∨ (c.toNat = 0 ∧ 0 < i) then (0, i, 12) else if c.toNat < 128 then (x + c.toNat % 128 * 128 ^ i, i + 1, 0) else vread t (i + 1) (x + c.toNat % 128 * 128 ^ i)
theorem vread_nil (l : List (BitVec 8)) (k x : Nat) (h : l.length ≤ k) : vread (l.drop k) k x = (0, k, 11) := by
  rw [List.drop_eq_nil_of_le h]; rfl
theorem vread_at (l : List (BitVec 8)) (k x : Nat) (h : k < l.length) : vread (l.drop k) k x =
    if (k = 9 ∧ l[k].toNat ≠ 1) ∨ (l[k].toNat = 0 ∧ 0 < k) then (0, k, 12) else if l[k].toNat < 128 then (x + l[k].toNat % 128 * 128 ^ k, k + 1, 0) else vread (l.drop (k + 1)) (k + 1) (x + l[k].toNat % 128 * 128 ^ k) := by
  rw [List.drop_eq_getElem_cons h, vread]
theorem pow128 (k : Nat) (hk : k ≤ 9) : 128 ^ k ≤ 9223372036854775808 := by
  have := Nat.pow_le_pow_right (show 0 < 128 by omega) hk
  have e : (128 : Nat) ^ 9 = 9223372036854775808 := by decide
  omega
theorem pow128_2 (k : Nat) : (2 : Nat) ^ (7 * k) = 128 ^ k := by rw [Nat.pow_mul]
theorem vnew (c x k : Nat) (hk : k ≤ 9) (hc : c < 256) (h1 : ¬ ((k = 9 ∧ c ≠ 1) ∨ (c = 0 ∧ 0 < k))) (hx : x < 128 ^ k) : x + c % 128 * 128 ^ k < 18446744073709551616 ∧ x + c % 128 * 128 ^ k < 128 ^ (k + 1) := by
  have hm : c % 128 < 128 := Nat.mod_lt _ (by omega)
  have hp : (c % 128 + 1) * 128 ^ k ≤ 128 * 128 ^ k := Nat.mul_le_mul_right _ hm
  rw [Nat.add_mul] at hp
  have e : 128 ^ (k + 1) = 128 * 128 ^ k := by rw [Nat.pow_succ, Nat.mul_comm]
  refine ⟨?_, by omega⟩
  by_cases h9 : k = 9
  · subst h9
    have hc1 : c = 1 := by omega
    subst hc1
    have e9 : (128 : Nat) ^ 9 = 9223372036854775808 := by decide
    rw [e9] at hx ⊢; omega
  · have := pow128 (k + 1) (by omega)
    omega
theorem and127 (c : BitVec 8) : bits .and .u8 (c.toNat : Int) 127 = ((c.toNat % 128 : Nat) : Int) := by
  have := u8_and_nat c.toNat 127 c.isLt (by decide)
  rw [show (127 : Nat) = 2 ^ 7 - 1 from rfl, Nat.and_two_pow_sub_one_eq_mod] at this
  exact this
theorem orAdd (x s k : Nat) (hx : x < 128 ^ k) (hs : x + s * 128 ^ k < 18446744073709551616) : bits .or .u64 (x : Int) ((s * 128 ^ k : Nat) : Int) = ((x + s * 128 ^ k : Nat) : Int) := by
  rw [u64_or_nat _ _ (by omega) (by omega)]
  have := Nat.shiftLeft_add_eq_or_of_lt (i := 7 * k) (b := x) (by rw [pow128_2]; exact hx) s
  rw [Nat.shiftLeft_eq, pow128_2] at this
  rw [Nat.or_comm, ← this, Nat.add_comm]
def readV (r : Nat × Nat × Nat) : Value := .tuple #[.int .u64 (r.1 : Int), .int .i64 (r.2.1 : Int), .int .i64 (r.2.2 : Int)]

set_option maxRecDepth 100000 in
set_option maxHeartbeats 2000000 in
theorem read_any (l : List (BitVec 8)) (A : Option Addr) (n cap : Nat) (w : World) (hn : n = l.length) (hr : RdB w A l) (hl : l.length ≤ cap) :
    Calls Try.prog 120 #[.slice A n cap] w fun e w' => e = .returned (readV (vread l 0 0)) ∧ w = w' := by
  subst hn
  have hlen := hr.1
  have Hr := Lib.hid hr
  clear hr
  go_enter Try.func120, Try.ntmps120
  go_wp2
  go_loop [5, 11] (fun x i => ∃ k X : Nat, k ≤ 9 ∧ k ≤ l.length ∧ X < 128 ^ k ∧ vread (l.drop k) k X = vread l 0 0 ∧ i = .int .i64 k ∧ x = .int .u64 X) (fun _ i => l.length - (intOf i).toNat)
  case atStart => exact ⟨0, 0, by omega, by omega, by simp, rfl, rfl, rfl⟩
  case round =>
    obtain ⟨k, X, hk9, hkl, hX, hv, rfl, rfl⟩ := hrel
    by_cases hlt : k < l.length
    · obtain ⟨ad, rfl, hc⟩ := Hr.out.at' k hlt
      rw [vread_at l k X hlt] at hv
      generalize hC : l[k] = c at hv hc
      clear hC
      have hc8 := c.isLt
      have hand := and127 c
      by_cases h1 : (k = 9 ∧ c.toNat ≠ 1) ∨ (c.toNat = 0 ∧ 0 < k)
      · rw [if_pos h1] at hv
        have Hv := Lib.hid hv
        clear hv
        by_cases h9 : k = 9 ∧ c.toNat ≠ 1
        · have b9 : ((k : Int) == 9) = true := by simp; omega
          have bc : ((c.toNat : Int) != 1) = true := by simp; omega
          clear h1 h9
          go_wp2
          go_ret3
          exact ⟨by rw [← Hv.out]; rfl, rfl⟩
        · have b9 : ((k : Int) == 9) = false := by simp; omega
          have c0 : ((c.toNat : Int) == 0) = true := by simp; omega
          have cl : (decide ((c.toNat : Int) < 128)) = true := by simp; omega
          have k0 : 0 < (k : Int) := by omega
          clear h1 h9
          go_wp2
          go_ret3
          exact ⟨by rw [← Hv.out]; rfl, rfl⟩
      · rw [if_neg h1] at hv
        obtain ⟨n1, n2⟩ := vnew c.toNat X k hk9 hc8 h1 hX
        have hor := orAdd X (c.toNat % 128) k hX n1
        obtain ⟨N, hN⟩ : ∃ N, X + c.toNat % 128 * 128 ^ k = N := ⟨_, rfl⟩
        obtain ⟨S, hS⟩ : ∃ S, c.toNat % 128 * 128 ^ k = S := ⟨_, rfl⟩
        rw [hN] at hv n1 n2
        have hSb : S < 18446744073709551616 := by omega
        rw [hS] at hor hN
        rw [hN] at hor
        have hsh : IntKind.u64.wrap (((c.toNat % 128 : Nat) : Int) * 2 ^ (7 * k)) = (S : Int) := by
          have e : ((c.toNat % 128 : Nat) : Int) * 2 ^ (7 * k) = (S : Int) := by rw [← hS, ← pow128_2]; push_cast; rfl
          rw [e, IntKind.wrap_u64]; omega
        have h7 : ((7 : Int) * (k : Int)).toNat = 7 * k := by omega
        obtain ⟨m, hm⟩ : ∃ m : Nat, c.toNat % 128 = m := ⟨_, rfl⟩
        have hm128 : m < 128 := by omega
        rw [hm] at hand hsh
        have HN := Lib.hid hN
        have HS := Lib.hid hS
        have Hm := Lib.hid hm
        clear hN hS hm
        by_cases hl8 : c.toNat < 128
        · rw [if_pos hl8] at hv
          have Hv := Lib.hid hv
          clear hv
          have cl : (decide ((c.toNat : Int) < 128)) = true := by simp; omega
          by_cases k9 : k = 9
          · have b9 : ((k : Int) == 9) = true := by simp; omega
            have bc : ((c.toNat : Int) != 1) = false := by simp; omega
            have c0 : ((c.toNat : Int) == 0) = false := by simp; omega
            have HH := Lib.hid (And.intro h1 (And.intro k9 hl8))
            clear h1 k9 hl8
            go_wp2
            go_ret3
            exact ⟨by rw [← Hv.out]; rfl, rfl⟩
          · have b9 : ((k : Int) == 9) = false := by simp; omega
            by_cases z : c.toNat = 0
            · have c0 : ((c.toNat : Int) == 0) = true := by simp; omega
              have k0 : ¬ (0 < (k : Int)) := by omega
              have HH := Lib.hid (And.intro h1 (And.intro k9 (And.intro hl8 z)))
              clear h1 k9 hl8 z
              go_wp2
              go_ret3
              exact ⟨by rw [← Hv.out]; rfl, rfl⟩
            · have c0 : ((c.toNat : Int) == 0) = false := by simp; omega
              have HH := Lib.hid (And.intro h1 (And.intro k9 (And.intro hl8 z)))
              clear h1 k9 hl8 z
              go_wp2
              go_ret3
              exact ⟨by rw [← Hv.out]; rfl, rfl⟩
        · rw [if_neg hl8] at hv
          have hk8 : k ≤ 8 := by omega
          have b9 : ((k : Int) == 9) = false := by simp; omega
          have cl : (decide ((c.toNat : Int) < 128)) = false := by simp; omega
          have HV := Lib.hid hv
          have HH := Lib.hid (And.intro h1 hl8)
          clear h1 hl8 hv
          go_wp2
          go_round
          case rel => exact ⟨k + 1, N, by omega, by omega, n2, HV.out, by go_num, rfl⟩
          case measure => simp [intOf]; omega
    · have hke : l.length ≤ k := by omega
      rw [vread_nil l k X hke] at hv
      have Hv := Lib.hid hv
      clear hv
      have hke2 := Lib.hid (show k = l.length by omega)
      go_wp2
      go_ret3
      exact ⟨by rw [← Hv.out, hke2.out]; rfl, rfl⟩
set_option maxRecDepth 100000 in
set_option maxHeartbeats 2000000 in
theorem rread_any (l : List (BitVec 8)) (A : Option Addr) (n cap : Nat) (w : World) (hn : n = l.length) (hr : RdB w A l) (hl : l.length ≤ cap) :
    Calls Try.prog 121 #[.slice A n cap] w fun e w' => e = .returned (readV (vread l 0 0)) ∧ w = w' := by
  subst hn
  have hlen := hr.1
  have Hr := Lib.hid hr
  clear hr
  go_enter Try.func121, Try.ntmps121
  go_wp2
  go_loop [5, 6, 7] (fun x sc i => ∃ k X Q : Nat, k ≤ 9 ∧ k ≤ l.length ∧ X < 128 ^ k ∧ vread (l.drop k) k X = vread l 0 0 ∧ Q = 128 ^ k ∧ i = .int .i64 k ∧ x = .int .u64 X ∧ sc = .int .u64 Q) (fun _ _ i => l.length - (intOf i).toNat)
  case atStart => exact ⟨0, 0, 1, by omega, by omega, by simp, rfl, rfl, rfl, rfl, rfl⟩
  case round =>
    obtain ⟨k, X, Q, hk9, hkl, hX, hv, hQ, rfl, rfl, rfl⟩ := hrel
    have hQ9 : Q ≤ 9223372036854775808 := by rw [hQ]; exact pow128 k hk9
    have HQ := Lib.hid hQ
    clear hQ
    by_cases hlt : k < l.length
    · obtain ⟨ad, rfl, hc⟩ := Hr.out.at' k hlt
      rw [vread_at l k X hlt] at hv
      generalize hC : l[k] = c at hv hc
      clear hC
      have hc8 := c.isLt
      have hand : (c.toNat : Int).tmod 128 = ((c.toNat % 128 : Nat) : Int) := by rw [Int.tmod_eq_emod_of_nonneg (by omega)]; omega
      by_cases h1 : (k = 9 ∧ c.toNat ≠ 1) ∨ (c.toNat = 0 ∧ 0 < k)
      · rw [if_pos h1] at hv
        have Hv := Lib.hid hv
        clear hv
        by_cases h9 : k = 9 ∧ c.toNat ≠ 1
        · have b9 : ((k : Int) == 9) = true := by simp; omega
          have bc : ((c.toNat : Int) != 1) = true := by simp; omega
          clear h1 h9
          go_wp2
          all_goals
            go_ret3
            exact ⟨by rw [← Hv.out]; rfl, rfl⟩
        · have b9 : ((k : Int) == 9) = false := by simp; omega
          have c0 : ((c.toNat : Int) == 0) = true := by simp; omega
          have cl : (decide ((c.toNat : Int) < 128)) = true := by simp; omega
          have k0 : 0 < (k : Int) := by omega
          clear h1 h9
          go_wp2
          all_goals
            go_ret3
            exact ⟨by rw [← Hv.out]; rfl, rfl⟩
      · rw [if_neg h1] at hv
        obtain ⟨n1, n2⟩ := vnew c.toNat X k hk9 hc8 h1 hX
        obtain ⟨N, hN⟩ : ∃ N, X + c.toNat % 128 * 128 ^ k = N := ⟨_, rfl⟩
        obtain ⟨S, hS⟩ : ∃ S, c.toNat % 128 * 128 ^ k = S := ⟨_, rfl⟩
        rw [hN] at hv n1 n2
        have hSb : S < 18446744073709551616 := by omega
        rw [hS] at hN
        have hmul : IntKind.u64.wrap (((c.toNat % 128 : Nat) : Int) * (Q : Int)) = (S : Int) := by
          have e : ((c.toNat % 128 : Nat) : Int) * (Q : Int) = (S : Int) := by rw [← hS, ← HQ.out]; exact (Int.natCast_mul _ _).symm
          rw [e, IntKind.wrap_u64]; omega
        have hadd : IntKind.u64.wrap ((X : Int) + (S : Int)) = (N : Int) := by rw [IntKind.wrap_u64]; omega
        obtain ⟨m, hm⟩ : ∃ m : Nat, c.toNat % 128 = m := ⟨_, rfl⟩
        have hm128 : m < 128 := by omega
        rw [hm] at hand hmul
        have HN := Lib.hid hN
        have HS := Lib.hid hS
        have Hm := Lib.hid hm
        clear hN hS hm
        by_cases hl8 : c.toNat < 128
        · rw [if_pos hl8] at hv
          have Hv := Lib.hid hv
          clear hv
          have cl : (decide ((c.toNat : Int) < 128)) = true := by simp; omega
          by_cases k9 : k = 9
          · have b9 : ((k : Int) == 9) = true := by simp; omega
            have bc : ((c.toNat : Int) != 1) = false := by simp; omega
            have c0 : ((c.toNat : Int) == 0) = false := by simp; omega
            have HH := Lib.hid (And.intro h1 (And.intro k9 hl8))
            clear h1 k9 hl8
            go_wp2
            all_goals
              go_ret3
              exact ⟨by rw [← Hv.out]; rfl, rfl⟩
          · have b9 : ((k : Int) == 9) = false := by simp; omega
            by_cases z : c.toNat = 0
            · have c0 : ((c.toNat : Int) == 0) = true := by simp; omega
              have k0 : ¬ (0 < (k : Int)) := by omega
              have HH := Lib.hid (And.intro h1 (And.intro k9 (And.intro hl8 z)))
              clear h1 k9 hl8 z
              go_wp2
              all_goals
                go_ret3
                exact ⟨by rw [← Hv.out]; rfl, rfl⟩
            · have c0 : ((c.toNat : Int) == 0) = false := by simp; omega
              have HH := Lib.hid (And.intro h1 (And.intro k9 (And.intro hl8 z)))
              clear h1 k9 hl8 z
              go_wp2
              all_goals
                go_ret3
                exact ⟨by rw [← Hv.out]; rfl, rfl⟩
        · rw [if_neg hl8] at hv
          have hk8 : k ≤ 8 := by omega
          have hq8 : Q * 128 = 128 ^ (k + 1) := by rw [HQ.out, Nat.pow_succ]
          have hq9 := pow128 (k + 1) (by omega)
          have hsc : IntKind.u64.wrap ((Q : Int) * 128) = ((Q * 128 : Nat) : Int) := by rw [IntKind.wrap_u64]; omega
          obtain ⟨Q2, hQ2⟩ : ∃ Q2, Q * 128 = Q2 := ⟨_, rfl⟩
          rw [hQ2] at hsc
          have HQ2 := Lib.hid (hQ2.symm.trans hq8)
          clear hq8 hq9 hQ2
          have b9 : ((k : Int) == 9) = false := by simp; omega
          have cl : (decide ((c.toNat : Int) < 128)) = false := by simp; omega
          have c0 : ((c.toNat : Int) == 0) = false := by simp; omega
          have HV := Lib.hid hv
          have HH := Lib.hid (And.intro h1 hl8)
          clear h1 hl8 hv
          have hz : (k : Int) ≤ 0 ∨ 0 < (k : Int) := by omega
          rcases hz with hz | hz
          · go_wp2
            go_round
            case rel => exact ⟨k + 1, N, Q2, by omega, by omega, n2, HV.out, HQ2.out, by go_num, rfl, rfl⟩
            case measure => simp [intOf]; omega
          · go_wp2
            go_round
            case rel => exact ⟨k + 1, N, Q2, by omega, by omega, n2, HV.out, HQ2.out, by go_num, rfl, rfl⟩
            case measure => simp [intOf]; omega
    · have hke : l.length ≤ k := by omega
      rw [vread_nil l k X hke] at hv
      have Hv := Lib.hid hv
      clear hv
      have hke2 := Lib.hid (show k = l.length by omega)
      go_wp2
      all_goals
        go_ret3
        exact ⟨by rw [← Hv.out, hke2.out]; rfl, rfl⟩
/-- A number's varint, of at most f bytes. -/
def vlist : Nat → Nat → List (BitVec 8)
  | 0, _ => []
  | f + 1, x => if x < 128 then [BitVec.ofNat 8 x] else BitVec.ofNat 8 (x % 128 + 128) :: vlist f (x / 128)
theorem vlist_small (f x : Nat) (h : x < 128) : vlist (f + 1) x = [BitVec.ofNat 8 x] := by rw [vlist, if_pos h]
theorem vlist_big (f x : Nat) (h : ¬ x < 128) : vlist (f + 1) x = BitVec.ofNat 8 (x % 128 + 128) :: vlist f (x / 128) := by rw [vlist, if_neg h]
theorem or128 (x : Nat) : bits .or .u8 ((x : Int) % 256) 128 = ((BitVec.ofNat 8 (x % 128 + 128)).toNat : Int) := by
  have h := u8_or_nat (x % 256) 128 (by omega) (by decide)
  have e : x % 256 ||| 128 = x % 128 + 128 := by
    have all : ∀ n : Fin 256, n.val ||| 128 = n.val % 128 + 128 := by decide +kernel
    have := all ⟨x % 256, by omega⟩
    simp only at this
    rw [this]; omega
  rw [e] at h
  rw [BitVec.toNat_ofNat, show (x % 128 + 128) % 2 ^ 8 = x % 128 + 128 by omega, ← h]
  rfl
theorem low256 (x : Nat) (h : x < 128) : (x : Int) % 256 = ((BitVec.ofNat 8 x).toNat : Int) := by rw [BitVec.toNat_ofNat]; omega
theorem oneInt (n : Int) : ∀ u ∈ [Value.int .u8 n], u.oneCell' = true := by intro u hu; simp at hu; subst hu; rfl
theorem low255 (x : Nat) (h : x < 128) : (x : Int) = ((BitVec.ofNat 8 x).toNat : Int) := by rw [BitVec.toNat_ofNat]; omega
theorem vpow (f : Nat) : 128 ^ (f + 1) = 128 * 128 ^ f := by rw [Nat.pow_succ, Nat.mul_comm]

set_option maxRecDepth 100000 in
set_option maxHeartbeats 2000000 in
theorem varint_any (x : Nat) (hx : x < 18446744073709551616) (w : World) : Calls Try.prog 103 #[.int .u64 x] w fun e w' =>
    ∃ g cap, e = .returned (.slice (some ⟨g, 0, none⟩) (vlist 10 x).length cap) ∧ w'.ownsRow w.heap.size 5 1 (.slice (some ⟨g, 0, none⟩) (vlist 10 x).length cap) (vlist 10 x).length (bytesV (vlist 10 x)) ∧ Below w.heap.size w w' := by
  obtain ⟨i0, hi, hz0, hz1, hz2⟩ := info_parts info5
  go_enter Try.func103, Try.ntmps103
  go_wp2
  go_loopw [0, 3] (fun xv v wr => ∃ (f X : Nat) (p : List (BitVec 8)), 1 ≤ f ∧ X < 128 ^ f ∧ X < 18446744073709551616 ∧ p.length + f = 10 ∧ p ++ vlist f X = vlist 10 x ∧ xv = .int .u64 X ∧ wr.ownsRow w.heap.size 5 1 v p.length (bytesV p) ∧ Below w.heap.size w wr) (fun xv _ _ => (intOf xv).toNat)
  case atStart => exact ⟨10, x, [], by omega, by have : (128 : Nat) ^ 10 = 1180591620717411303424 := by decide
                                                 omega, hx, rfl, rfl, rfl, World.ownsRow_nil _ _ _ _, Below.refl _ _⟩
  case round =>
    obtain ⟨f, X, p, hf1, hXf, hX, hpf, hp, rfl, hown, hbel⟩ := hrel
    by_cases hlt : X < 128
    · obtain ⟨f', rfl⟩ : ∃ f', f = f' + 1 := ⟨f - 1, by omega⟩
      rw [vlist_small f' X hlt] at hp
      have hlow := low255 X hlt
      generalize BitVec.ofNat 8 X = c at hp hlow
      have Hlow := Lib.hid hlow
      clear hlow
      have Hp := Lib.hid hp
      have Hf := Lib.hid hpf
      have hp10 : p.length ≤ 10 := by omega
      clear hp hpf hXf
      go_wp2_with (first | (at_builtin; refine wpList_append_own _ rfl (.tmp 14) (.tmp 17) 35 rfl w.heap.size 5 i0 (.int .u8 0) 1 1 Try.underlying35 hi hz0 hz1 hz2 rfl (by decide) _ _ _ rfl (hown.alloc _) ⟨wr.heap.size, 0, none⟩ 1 1 [.int .u8 (X : Int)] rfl rfl (cell_one_new _ _ _) (oneInt _) (by unfold maxLen; omega) (by omega) (append_base hbel (Nat.le_refl _) _) ?_; intro v' w2 hown' hgrow _) | fail)
      have hb2 : Below w.heap.size w w2 := (hbel.alloc hbel.size _).grown hgrow (by have := hbel.size; simp; omega) (own_base' hown)
      clear hgrow
      rw [Hlow.out, bytesV_snoc, Hp.out, show p.length + 1 = (vlist 10 x).length by rw [← Hp.out]; simp] at hown'
      have hl10 : 1 ≤ (vlist 10 x).length := by rw [← Hp.out]; simp
      obtain ⟨g, cap, hv⟩ := Joins.ownsRow_form hown' (by omega)
      rw [hv] at hown' ⊢
      clear hv
      go_wp2
      go_ret
      exact ⟨g, cap, rfl, hown', hb2⟩
    · have hf2 : 2 ≤ f := by
        rcases Nat.lt_or_ge f 2 with h | h
        · obtain rfl : f = 1 := by omega
          simp at hXf; omega
        · exact h
      obtain ⟨f', rfl⟩ : ∃ f', f = f' + 1 := ⟨f - 1, by omega⟩
      rw [vlist_big f' X hlt] at hp
      have hor := or128 X
      generalize BitVec.ofNat 8 (X % 128 + 128) = c at hp hor
      have Hp := Lib.hid hp
      have Hf := Lib.hid hpf
      have hp10 : p.length ≤ 10 := by omega
      have Hx := Lib.hid hXf
      clear hp hpf hXf
      go_wp2_with (first | (at_builtin; go_loud (refine wpList_append_own _ rfl (.tmp 6) (.tmp 10) 35 rfl w.heap.size 5 i0 (.int .u8 0) 1 1 Try.underlying35 hi hz0 hz1 hz2 rfl (by decide) _ _ _ rfl (hown.alloc _) ⟨wr.heap.size, 0, none⟩ 1 1 [.int .u8 (c.toNat : Int)] rfl rfl (cell_one_new _ _ _) (oneInt _) (by unfold maxLen; omega) (by omega) (append_base hbel (Nat.le_refl _) _) ?_; intro v' w2 hown' hgrow _)) | fail)
      have hb2 : Below w.heap.size w w2 := (hbel.alloc hbel.size _).grown hgrow (by have := hbel.size; simp; omega) (own_base' hown)
      clear hgrow
      rw [bytesV_snoc] at hown'
      go_roundw
      case rel => exact ⟨f', X / 128, p ++ [c], by omega, by have := Hx.out; rw [vpow] at this; omega, by omega, by have := Hf.out; simp; omega, by rw [← Hp.out]; simp, by congr 1, by simpa using hown', hb2⟩
      case measure => simp [intOf]; omega
set_option maxRecDepth 100000 in
set_option maxHeartbeats 2000000 in
theorem rvarint_any (x : Nat) (hx : x < 18446744073709551616) (w : World) : Calls Try.prog 105 #[.int .u64 x] w fun e w' =>
    ∃ g cap, e = .returned (.slice (some ⟨g, 0, none⟩) (vlist 10 x).length cap) ∧ w'.ownsRow w.heap.size 5 1 (.slice (some ⟨g, 0, none⟩) (vlist 10 x).length cap) (vlist 10 x).length (bytesV (vlist 10 x)) ∧ Below w.heap.size w w' := by
  obtain ⟨i0, hi, hz0, hz1, hz2⟩ := info_parts info5
  go_enter Try.func105, Try.ntmps105
  go_wp2
  go_loopw [0, 3] (fun xv v wr => ∃ (f X : Nat) (p : List (BitVec 8)), 1 ≤ f ∧ X < 128 ^ f ∧ X < 18446744073709551616 ∧ p.length + f = 10 ∧ p ++ vlist f X = vlist 10 x ∧ xv = .int .u64 X ∧ wr.ownsRow w.heap.size 5 1 v p.length (bytesV p) ∧ Below w.heap.size w wr) (fun xv _ _ => (intOf xv).toNat)
  case atStart => exact ⟨10, x, [], by omega, by have : (128 : Nat) ^ 10 = 1180591620717411303424 := by decide
                                                 omega, hx, rfl, rfl, rfl, World.ownsRow_nil _ _ _ _, Below.refl _ _⟩
  case round =>
    obtain ⟨f, X, p, hf1, hXf, hX, hpf, hp, rfl, hown, hbel⟩ := hrel
    by_cases hlt : X < 128
    · obtain ⟨f', rfl⟩ : ∃ f', f = f' + 1 := ⟨f - 1, by omega⟩
      rw [vlist_small f' X hlt] at hp
      have hlow := low255 X hlt
      generalize BitVec.ofNat 8 X = c at hp hlow
      have Hlow := Lib.hid hlow
      clear hlow
      have Hp := Lib.hid hp
      have Hf := Lib.hid hpf
      have hp10 : p.length ≤ 10 := by omega
      clear hp hpf hXf
      go_wp2_with (first | (at_builtin; refine wpList_append_own _ rfl (.tmp 15) (.tmp 18) 35 rfl w.heap.size 5 i0 (.int .u8 0) 1 1 Try.underlying35 hi hz0 hz1 hz2 rfl (by decide) _ _ _ rfl (hown.alloc _) ⟨wr.heap.size, 0, none⟩ 1 1 [.int .u8 (X : Int)] rfl rfl (cell_one_new _ _ _) (oneInt _) (by unfold maxLen; omega) (by omega) (append_base hbel (Nat.le_refl _) _) ?_; intro v' w2 hown' hgrow _) | fail)
      have hb2 : Below w.heap.size w w2 := (hbel.alloc hbel.size _).grown hgrow (by have := hbel.size; simp; omega) (own_base' hown)
      clear hgrow
      rw [Hlow.out, bytesV_snoc, Hp.out, show p.length + 1 = (vlist 10 x).length by rw [← Hp.out]; simp] at hown'
      have hl10 : 1 ≤ (vlist 10 x).length := by rw [← Hp.out]; simp
      obtain ⟨g, cap, hv⟩ := Joins.ownsRow_form hown' (by omega)
      rw [hv] at hown' ⊢
      clear hv
      go_wp2
      go_ret
      exact ⟨g, cap, rfl, hown', hb2⟩
    · have hf2 : 2 ≤ f := by
        rcases Nat.lt_or_ge f 2 with h | h
        · obtain rfl : f = 1 := by omega
          simp at hXf; omega
        · exact h
      obtain ⟨f', rfl⟩ : ∃ f', f = f' + 1 := ⟨f - 1, by omega⟩
      rw [vlist_big f' X hlt] at hp
      have hor : ((X % 128 : Nat) : Int) + 128 = ((BitVec.ofNat 8 (X % 128 + 128)).toNat : Int) := by rw [BitVec.toNat_ofNat]; omega
      generalize BitVec.ofNat 8 (X % 128 + 128) = c at hp hor
      have hrem : (X : Int).tmod 128 = ((X % 128 : Nat) : Int) := by rw [Int.tmod_eq_emod_of_nonneg (by omega)]; omega
      obtain ⟨m, hm⟩ : ∃ m : Nat, X % 128 = m := ⟨_, rfl⟩
      have hm128 : m < 128 := by omega
      rw [hm] at hor hrem
      have Hor := Lib.hid hor
      have Hm := Lib.hid hm
      clear hor hm
      have Hp := Lib.hid hp
      have Hf := Lib.hid hpf
      have hp10 : p.length ≤ 10 := by omega
      have Hx := Lib.hid hXf
      clear hp hpf hXf
      go_wp2_with (first | (at_builtin; go_loud (refine wpList_append_own _ rfl (.tmp 6) (.tmp 11) 35 rfl w.heap.size 5 i0 (.int .u8 0) 1 1 Try.underlying35 hi hz0 hz1 hz2 rfl (by decide) _ _ _ rfl (hown.alloc _) ⟨wr.heap.size, 0, none⟩ 1 1 [.int .u8 ((m : Int) + 128)] rfl rfl (cell_one_new _ _ _) (oneInt _) (by unfold maxLen; omega) (by omega) (append_base hbel (Nat.le_refl _) _) ?_; intro v' w2 hown' hgrow _)) | fail)
      have hb2 : Below w.heap.size w w2 := (hbel.alloc hbel.size _).grown hgrow (by have := hbel.size; simp; omega) (own_base' hown)
      clear hgrow
      rw [Hor.out, bytesV_snoc] at hown'
      go_roundw
      case rel => exact ⟨f', X / 128, p ++ [c], by omega, by have := Hx.out; rw [vpow] at this; omega, by omega, by have := Hf.out; simp; omega, by rw [← Hp.out]; simp, by congr 1, by simpa using hown', hb2⟩
      case measure => simp [intOf]; omega
theorem vlist_read : ∀ (t : List (BitVec 8)) (i X r1 r2 : Nat), i ≤ 9 → X < 128 ^ i → vread t i X = (r1, r2, 0) →
    ∃ y m, r1 = X + y * 128 ^ i ∧ r2 = i + m ∧ 1 ≤ m ∧ m ≤ t.length ∧ r2 ≤ 10 ∧ (i = 0 ∨ 0 < y) ∧ r1 < 18446744073709551616 ∧ ∀ f, m ≤ f → vlist f y = t.take m := by
  intro t
  induction t with
  | nil => intro i X r1 r2 _ _ h; simp [vread] at h
  | cons c t ih =>
    intro i X r1 r2 hi hX h
    have hc := c.isLt
    rw [vread] at h
    split at h
    · simp at h
    · rename_i h1
      obtain ⟨n1, n2⟩ := vnew c.toNat X i hi hc h1 hX
      split at h
      · rename_i h8
        simp only [Prod.mk.injEq] at h
        obtain ⟨rfl, rfl, _⟩ := h
        refine ⟨c.toNat, 1, by rw [Nat.mod_eq_of_lt h8], rfl, by omega, by simp, by omega, by omega, n1, fun f hf => ?_⟩
        obtain ⟨f', rfl⟩ : ∃ f', f = f' + 1 := ⟨f - 1, by omega⟩
        rw [vlist_small f' _ h8]
        simp
      · rename_i h8
        have hi8 : i ≤ 8 := by omega
        obtain ⟨y, m, hy, hm, m1, m2, m3, m4, m5, m6⟩ := ih (i + 1) _ r1 r2 (by omega) n2 h
        refine ⟨c.toNat % 128 + 128 * y, m + 1, ?_, by omega, by omega, by simp; omega, m3, .inr (by omega), m5, fun f hf => ?_⟩
        · rw [hy, Nat.add_mul, Nat.pow_succ, Nat.mul_comm (128 ^ i) 128, ← Nat.mul_assoc, Nat.mul_comm y 128]; omega
        · obtain ⟨f', rfl⟩ : ∃ f', f = f' + 1 := ⟨f - 1, by omega⟩
          have y1 : 0 < y := by omega
          rw [vlist_big f' _ (by omega), show (c.toNat % 128 + 128 * y) / 128 = y by omega, m6 f' (by omega), show (c.toNat % 128 + 128 * y) % 128 + 128 = c.toNat by omega, List.take_succ_cons]
          congr 1
          simp
theorem one_law (b : List (BitVec 8)) (r1 r2 : Nat) (h : vread b 0 0 = (r1, r2, 0)) : 1 ≤ r2 ∧ r2 ≤ b.length ∧ r1 < 18446744073709551616 ∧ vlist 10 r1 = b.take r2 := by
  obtain ⟨y, m, hy, hm, m1, m2, m3, _, m5, m6⟩ := vlist_read b 0 0 r1 r2 (by omega) (by simp) h
  simp at hy hm
  subst hy hm
  exact ⟨m1, m2, m5, m6 10 m3⟩

theorem vread_back : ∀ (f y i X : Nat) (t : List (BitVec 8)), 1 ≤ f → y < 128 ^ f → i + f = 10 → (i = 0 ∨ 0 < y) → X + y * 128 ^ i < 18446744073709551616 →
    vread (vlist f y ++ t) i X = (X + y * 128 ^ i, i + (vlist f y).length, 0) := by
  intro f
  induction f with
  | zero => intro y i X t h; omega
  | succ f ih =>
    intro y i X t _ hy hi h0 hX
    by_cases hs : y < 128
    · rw [vlist_small f y hs]
      have hc : (BitVec.ofNat 8 y).toNat = y := by rw [BitVec.toNat_ofNat]; omega
      have h9 : ¬ ((i = 9 ∧ y ≠ 1) ∨ (y = 0 ∧ 0 < i)) := by
        rintro (⟨rfl, h1⟩ | ⟨h1, h2⟩)
        · have e : (128 : Nat) ^ 9 = 9223372036854775808 := by decide
          rw [e] at hX
          omega
        · omega
      show vread (BitVec.ofNat 8 y :: t) i X = _
      rw [vread, hc, if_neg h9, if_pos hs, Nat.mod_eq_of_lt hs]
      simp
    · rw [vlist_big f y hs]
      have hf : 1 ≤ f := by
        rcases Nat.eq_zero_or_pos f with rfl | h
        · simp at hy; omega
        · exact h
      have hc : (BitVec.ofNat 8 (y % 128 + 128)).toNat = y % 128 + 128 := by rw [BitVec.toNat_ofNat]; omega
      have hi9 : i ≠ 9 := by omega
      show vread (BitVec.ofNat 8 (y % 128 + 128) :: (vlist f (y / 128) ++ t)) i X = _
      have e : X + y % 128 * 128 ^ i + y / 128 * 128 ^ (i + 1) = X + y * 128 ^ i := by
        rw [Nat.pow_succ, Nat.mul_comm (128 ^ i) 128, ← Nat.mul_assoc, Nat.add_assoc, ← Nat.add_mul]
        congr 2; omega
      rw [vread, hc, if_neg (by omega), if_neg (by omega), show (y % 128 + 128) % 128 = y % 128 by omega,
        ih (y / 128) (i + 1) _ t hf (by rw [vpow] at hy; omega) (by omega) (.inr (by omega)) (by rw [e]; exact hX), e]
      simp; omega
theorem varint_back (x : Nat) (hx : x < 18446744073709551616) (t : List (BitVec 8)) : vread (vlist 10 x ++ t) 0 0 = (x, (vlist 10 x).length, 0) := by
  have := vread_back 10 x 0 0 t (by omega) (by have : (128 : Nat) ^ 10 = 1180591620717411303424 := by decide
                                               omega) rfl (.inl rfl) (by simpa using hx)
  simpa using this
set_option maxRecDepth 100000 in
set_option maxHeartbeats 2000000 in
theorem word_back (x : BitVec 64) (n len cap : Nat) (bits o : Int) (l : List (BitVec 8)) (A : Option Addr) (w : World) (hlen : len = l.length) (hr : RdB w A l) (hl : l.length ≤ cap) (ht : l.take n = wordBytes x n o)
    (hn : bits = 8 ∧ n = 1 ∨ bits = 16 ∧ n = 2 ∨ bits = 32 ∧ n = 4 ∨ bits = 64 ∧ n = 8) (ho : o = 1 ∨ o = 2) :
    Calls Try.prog 119 #[.slice A len cap, .int .i64 bits, .int .i64 o] w fun e w' => e = .returned (.tuple #[.int .u64 ((x.toNat % 2 ^ (8 * n) : Nat) : Int), .int .i64 0]) ∧ w = w' := by
  have hn8 : n ≤ 8 := by omega
  have hbits : bits = 8 ∨ bits = 16 ∨ bits = 32 ∨ bits = 64 := by omega
  have hq : bits.tdiv 8 = (n : Int) := by rcases hn with ⟨rfl, rfl⟩ | ⟨rfl, rfl⟩ | ⟨rfl, rfl⟩ | ⟨rfl, rfl⟩ <;> decide
  have hnl : n ≤ l.length := by
    have := congrArg List.length ht
    rw [List.length_take, length_wordBytes] at this
    omega
  have hm := hr.1
  have hr2 := hr.take n
  rw [ht] at hr2
  have NUM := Lib.hid (number_any x n n cap o A w rfl hr2 hn8 (by omega) ho)
  obtain ⟨T, hT⟩ : ∃ T, x.toNat % 2 ^ (8 * n) = T := ⟨_, rfl⟩
  rw [hT] at NUM ⊢
  subst hlen
  have c1 : (n : Int) ≤ (l.length : Int) := by omega
  have c2 : (l.length : Int) ≤ (cap : Int) := by omega
  have Hbits := Lib.hid hbits
  have Ho := Lib.hid ho
  have b0 : -9223372036854775808 ≤ bits := by omega
  have b1 : bits ≤ 64 := by omega
  clear hn hr hr2 ht hT hbits ho
  go_enter Try.func119, Try.ntmps119
  go_wp2_with (first | (go_at_call 99; refine (way_ok bits o _ Hbits.out Ho.out).mono ?_; rintro e w' ⟨rfl, rfl⟩) | (go_at_call 115; refine NUM.out.mono ?_; rintro e w' ⟨rfl, rfl⟩))
  go_ret2
  exact ⟨rfl, rfl⟩
end Go.Proofs.Ytjaakhjfpigdfaa
