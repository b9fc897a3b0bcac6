import Derived.Test.YtecaiaobbjddeaaS
/-! Word, in all cases: word's and the document's. -/
namespace Go.Proofs.Ytecaiaobbjddeaa
open Go.RowKit
set_option linter.unusedVariables false
set_option linter.unusedSimpArgs false

theorem rbytes_gen (x : BitVec 64) (bits o : Int) (w : World) : Calls Try.prog 22 #[.int .u64 x.toNat, .int .i64 bits, .int .i64 o] w fun e w' =>
    ∃ A c, e = .returned (.tuple #[.slice A (bytesOf x bits o).length c, .int .i64 (code bits o)]) ∧ RdB w' A (bytesOf x bits o) ∧ Below w.heap.size w w' := by
  by_cases h : code bits o = 0
  · unfold bytesOf
    rw [h, if_pos rfl, length_wordBytes]
    obtain ⟨⟨n, hn⟩, ho⟩ := code_zero bits o h
    obtain rfl : (bits / 8).toNat = n := by omega
    rcases ho with rfl | rfl
    · exact rbytes_big x _ bits w hn
    · exact rbytes_little x _ bits w hn
  · unfold bytesOf
    rw [if_neg h]
    refine (rbytes_bad x.toNat bits o w h).mono ?_
    rintro e w' ⟨rfl, hb⟩
    exact ⟨none, 0, rfl, ⟨by simp, fun j hj => by simp at hj⟩, hb⟩

/-- The number of the first n bytes. -/
def numOf (l : List (BitVec 8)) (n : Nat) (o : Int) : Nat := assemble (fun j => l.getD (which n o j) 0) n
theorem numOf_lt (l : List (BitVec 8)) (n : Nat) (o : Int) : numOf l n o < 2 ^ (8 * n) := assemble_lt _ n
theorem numOf_word (l : List (BitVec 8)) (n : Nat) (o : Int) (hl : n ≤ l.length) (hn : n ≤ 8) : ∃ x : BitVec 64, l.take n = wordBytes x n o ∧ x.toNat % 2 ^ (8 * n) = numOf l n o ∧ x.toNat = numOf l n o := by
  have hlt := numOf_lt l n o
  have h2 : 2 ^ (8 * n) ≤ 2 ^ 64 := Nat.pow_le_pow_right (by omega) (by omega)
  have h3 : (2 : Nat) ^ 64 = 18446744073709551616 := by decide
  have e : (BitVec.ofNat 64 (numOf l n o)).toNat = numOf l n o := by rw [BitVec.toNat_ofNat]; exact Nat.mod_eq_of_lt (by omega)
  refine ⟨BitVec.ofNat 64 (numOf l n o), ?_, by rw [e]; exact Nat.mod_eq_of_lt hlt, e⟩
  apply List.ext_getElem
  · rw [length_wordBytes, List.length_take]; omega
  · intro i h1 h2
    have hi : i < n := by rw [length_wordBytes] at h2; exact h2
    apply BitVec.eq_of_toNat_eq
    simp only [wordBytes, List.getElem_map, List.getElem_range]
    rw [byte_nat, e, numOf, assemble_byte _ n _ (which_lt n o i hi), which_which n o i hi, List.getD_eq_getElem?_getD, List.getElem?_eq_getElem (by omega)]
    simp
/-- How Word ends. -/
def wordE (l : List (BitVec 8)) (bits o : Int) : Int := if code bits o = 0 then (if l.length < (bits / 8).toNat then 11 else 0) else code bits o
def wordV (l : List (BitVec 8)) (bits o : Int) : Nat := if wordE l bits o = 0 then numOf l (bits / 8).toNat o else 0
theorem word_gen (l : List (BitVec 8)) (A : Option Addr) (cap : Nat) (bits o : Int) (w : World) (hr : RdB w A l) (hl : l.length ≤ cap) :
    Calls Try.prog 23 #[.slice A l.length cap, .int .i64 bits, .int .i64 o] w fun e w' => e = .returned (.tuple #[.int .u64 (wordV l bits o), .int .i64 (wordE l bits o)]) ∧ w = w' := by
  by_cases h : code bits o = 0
  · obtain ⟨⟨n, hn⟩, ho⟩ := code_zero bits o h
    obtain rfl : (bits / 8).toNat = n := by omega
    by_cases hs : l.length < (bits / 8).toNat
    · have e : wordE l bits o = 11 := by unfold wordE; rw [if_pos h, if_pos hs]
      rw [wordV, e, if_neg (by decide)]
      exact word_short A l.length cap _ bits o w hn ho hs
    · have e : wordE l bits o = 0 := by unfold wordE; rw [if_pos h, if_neg hs]
      rw [wordV, e, if_pos rfl]
      obtain ⟨x, hx1, hx2, _⟩ := numOf_word l (bits / 8).toNat o (by omega) (by omega)
      rw [← hx2]
      exact word_back x _ _ cap bits o l A w rfl hr hl hx1 hn ho
  · have e : wordE l bits o = code bits o := by unfold wordE; rw [if_neg h]
    rw [wordV, e, if_neg h]
    unfold code at h ⊢
    by_cases h1 : bits = 8 ∨ bits = 16 ∨ bits = 32 ∨ bits = 64
    · rw [if_pos h1] at h ⊢
      by_cases h2 : o = 1 ∨ o = 2
      · rw [if_pos h2] at h; exact absurd rfl h
      · rw [if_neg h2]; exact word_order A l.length cap bits o w h1 h2
    · rw [if_neg h1]; exact word_no A l.length cap bits o w h1

theorem rword_bad (A : Option Addr) (len cap : Nat) (bits o : Int) (w : World) (h : code bits o ≠ 0) : Calls Try.prog 24 #[.slice A len cap, .int .i64 bits, .int .i64 o] w fun e w' => e = .returned (.tuple #[.int .u64 0, .int .i64 (code bits o)]) ∧ Below w.heap.size w w' := by
  obtain ⟨c, hc⟩ : ∃ c, code bits o = c := ⟨_, rfl⟩
  rw [hc] at h ⊢
  have h1 : (c != 0) = true := by simp [h]
  have HC := Lib.hid hc
  clear hc
  go_enter Try.func24, Try.ntmps24
  go_wp2_with (go_at_call 35; refine (asked_any bits o _).mono ?_; rintro e w1 ⟨rfl, b1⟩; rw [HC.out])
  go_ret2
  exact ⟨rfl, b1⟩
theorem rword_short (A : Option Addr) (len cap n : Nat) (bits o : Int) (w : World) (hn : bits = 8 ∧ n = 1 ∨ bits = 16 ∧ n = 2 ∨ bits = 32 ∧ n = 4 ∨ bits = 64 ∧ n = 8) (ho : o = 1 ∨ o = 2) (hl : len < n) :
    Calls Try.prog 24 #[.slice A len cap, .int .i64 bits, .int .i64 o] w fun e w' => e = .returned (.tuple #[.int .u64 0, .int .i64 11]) ∧ Below w.heap.size w w' := by
  have hbits : bits = 8 ∨ bits = 16 ∨ bits = 32 ∨ bits = 64 := by omega
  have hq : bits.tdiv 8 = (n : Int) := by rcases hn with ⟨rfl, rfl⟩ | ⟨rfl, rfl⟩ | ⟨rfl, rfl⟩ | ⟨rfl, rfl⟩ <;> decide
  have c1 : (len : Int) < (n : Int) := by omega
  have hn8 : n ≤ 8 := by omega
  have Hbits := Lib.hid hbits
  have Ho := Lib.hid ho
  have b0 : -9223372036854775808 ≤ bits := by omega
  have b1 : bits ≤ 64 := by omega
  clear hn ho hbits
  go_enter Try.func24, Try.ntmps24
  go_wp2_with (go_at_call 35; refine (asked_ok bits o _ Hbits.out Ho.out).mono ?_; rintro e w1 ⟨rfl, bb⟩)
  go_ret2
  exact ⟨rfl, bb⟩
/-- What has been gathered, the highest byte first. -/
def rnumAt (x n k : Nat) : Nat := x % 2 ^ (8 * n) / 2 ^ (8 * (n - k))
theorem rnumAt_step (x n k : Nat) (hk : k < n) : rnumAt x n (k + 1) = rnumAt x n k * 256 + x / 2 ^ (8 * (n - 1 - k)) % 256 := by
  obtain ⟨m, hm⟩ : ∃ m, n - k = m + 1 := ⟨n - k - 1, by omega⟩
  unfold rnumAt
  rw [hm, show n - (k + 1) = m by omega, show n - 1 - k = m by omega]
  have e1 : x / 2 ^ (8 * m) % 256 = x % 2 ^ (8 * n) / 2 ^ (8 * m) % 256 := by
    have : (2 : Nat) ^ (8 * n) = 2 ^ (8 * m) * (256 * 2 ^ (8 * (n - m - 1))) := by
      rw [show (256 : Nat) = 2 ^ 8 by decide, ← Nat.pow_add, ← Nat.pow_add]; congr 1; omega
    rw [this, Nat.mod_mul_right_div_self, Nat.mod_mul_right_mod]
  rw [e1]
  generalize x % 2 ^ (8 * n) = y at *
  have e2 : (2 : Nat) ^ (8 * (m + 1)) = 2 ^ (8 * m) * 256 := by rw [show (256 : Nat) = 2 ^ 8 by decide, ← Nat.pow_add]; congr 1
  rw [e2, ← Nat.div_div_eq_div_mul]
  omega
theorem rnumAt_zero (x n : Nat) : rnumAt x n 0 = 0 := by
  unfold rnumAt
  rw [Nat.sub_zero, Nat.div_eq_of_lt (Nat.mod_lt _ (Nat.pow_pos (by omega)))]
theorem rnumAt_all (x n : Nat) : rnumAt x n n = x % 2 ^ (8 * n) := by unfold rnumAt; simp
theorem rnumAt_lt (x n k : Nat) (hn : n ≤ 8) : rnumAt x n k < 18446744073709551616 := by
  have h1 : x % 2 ^ (8 * n) < 2 ^ (8 * n) := Nat.mod_lt _ (Nat.pow_pos (by omega))
  have h2 : 2 ^ (8 * n) ≤ 2 ^ 64 := Nat.pow_le_pow_right (by omega) (by omega)
  have h3 : (2 : Nat) ^ 64 = 18446744073709551616 := by decide
  have := Nat.div_le_self (x % 2 ^ (8 * n)) (2 ^ (8 * (n - k)))
  unfold rnumAt; omega

set_option maxRecDepth 100000 in
set_option maxHeartbeats 4000000 in
theorem rword_ok (x : BitVec 64) (n cap : Nat) (bits o : Int) (l : List (BitVec 8)) (A : Option Addr) (w : World) (hr : RdB w A l) (hl : l.length ≤ cap) (ht : l.take n = wordBytes x n o)
    (hn : bits = 8 ∧ n = 1 ∨ bits = 16 ∧ n = 2 ∨ bits = 32 ∧ n = 4 ∨ bits = 64 ∧ n = 8) (ho : o = 1 ∨ o = 2) :
    Calls Try.prog 24 #[.slice A l.length cap, .int .i64 bits, .int .i64 o] w fun e w' => e = .returned (.tuple #[.int .u64 ((x.toNat % 2 ^ (8 * n) : Nat) : Int), .int .i64 0]) ∧ Below w.heap.size w w' := by
  have hn8 : n ≤ 8 := by omega
  have hn1 : 1 ≤ n := by omega
  have hbits : bits = 8 ∨ bits = 16 ∨ bits = 32 ∨ bits = 64 := by omega
  have hq : bits.tdiv 8 = (n : Int) := by rcases hn with ⟨rfl, rfl⟩ | ⟨rfl, rfl⟩ | ⟨rfl, rfl⟩ | ⟨rfl, rfl⟩ <;> decide
  have hnl : n ≤ l.length := by
    have := congrArg List.length ht
    rw [List.length_take, length_wordBytes] at this
    omega
  have hm := hr.1
  have c1 : (n : Int) ≤ (l.length : Int) := by omega
  have c2 : (l.length : Int) ≤ (cap : Int) := by omega
  have hby : ∀ k (h : k < l.length), k < n → (l[k].toNat = x.toNat / 2 ^ (8 * which n o k) % 256) := by
    intro k h hkn
    have := List.getElem_take (xs := l) (j := n) (i := k) (h := by rw [List.length_take]; omega)
    rw [← this]
    simp only [ht]
    rw [← byte_nat]
    simp [wordBytes]
  have Hby := Lib.hid hby
  have Hr := Lib.hid hr
  have Hbits := Lib.hid hbits
  have Ho := Lib.hid ho
  have b0 : -9223372036854775808 ≤ bits := by omega
  have b1 : bits ≤ 64 := by omega
  clear hn hr ht hbits hby
  obtain ⟨T, hT⟩ : ∃ T, x.toNat % 2 ^ (8 * n) = T := ⟨_, rfl⟩
  rw [hT]
  have HT := Lib.hid ((rnumAt_all x.toNat n).trans hT)
  clear hT
  go_enter Try.func24, Try.ntmps24
  go_wp2_with (go_at_call 35; refine (asked_ok bits o _ Hbits.out Ho.out).mono ?_; rintro e w1 ⟨rfl, bb⟩)
  go_loopw [9, 10] (fun v i wr => ∃ k : Nat, k ≤ n ∧ i = .int .i64 k ∧ v = .int .u64 (rnumAt x.toNat n k : Nat) ∧ Below w.heap.size w wr) (fun _ i _ => n - (intOf i).toNat)
  case atStart => exact ⟨0, Nat.zero_le _, rfl, by rw [rnumAt_zero]; rfl, bb⟩
  case round =>
    obtain ⟨k, hk, rfl, rfl, hbel⟩ := hrel
    by_cases hlt : k < n
    · have hrd : RdB wr A l := RdR.below Hr.out hbel (fun _ _ h => h)
      have s1 := rnumAt_step x.toNat n k hlt
      have l1 := rnumAt_lt x.toNat n (k + 1) hn8
      have hb : x.toNat / 2 ^ (8 * (n - 1 - k)) % 256 < 256 := Nat.mod_lt _ (by omega)
      obtain ⟨N, hN⟩ : ∃ N, rnumAt x.toNat n (k + 1) = N := ⟨_, rfl⟩
      obtain ⟨X, hX⟩ : ∃ X, rnumAt x.toNat n k = X := ⟨_, rfl⟩
      rw [hN, hX] at s1
      rw [hN] at l1
      rw [hX]
      have HN := Lib.hid hN
      clear hN hX
      rcases Ho.out with h1 | h1
      · obtain ⟨ad, hA, hcell⟩ := hrd.at' k (by omega)
        rw [Hby.out k (by omega) hlt, which, if_pos h1] at hcell
        generalize x.toNat / 2 ^ (8 * (n - 1 - k)) % 256 = B at *
        have s2 : IntKind.u64.wrap ((X : Int) * 256 + (B : Int)) = (N : Int) := by rw [IntKind.wrap_u64]; omega
        have H1 := Lib.hid h1
        have o1 : (o == 1) = true := by simp [h1]
        have HA := Lib.hid hA
        subst hA
        clear h1
        go_wp2
        go_roundw
        case rel => exact ⟨k + 1, by omega, by go_num, by rw [HN.out, s1]; push_cast; rfl, hbel⟩
        case measure => simp [intOf]; omega
      · obtain ⟨ad, hA, hcell⟩ := hrd.at' (n - 1 - k) (by omega)
        rw [Hby.out (n - 1 - k) (by omega) (by omega), which, if_neg (by omega)] at hcell
        generalize x.toNat / 2 ^ (8 * (n - 1 - k)) % 256 = B at *
        have s2 : IntKind.u64.wrap ((X : Int) * 256 + (B : Int)) = (N : Int) := by rw [IntKind.wrap_u64]; omega
        have H1 := Lib.hid h1
        have o1 : (o == 1) = false := by simp [h1]
        subst hA
        clear h1
        obtain ⟨j, hj⟩ : ∃ j : Nat, n - 1 - k = j := ⟨_, rfl⟩
        rw [hj] at hcell
        have hj2 : (n : Int) - 1 - (k : Int) = (j : Int) := by omega
        have hj3 : (j : Int) < l.length := by omega
        go_wp2
        go_roundw
        case rel => exact ⟨k + 1, by omega, by go_num, by rw [HN.out, s1]; push_cast; rfl, hbel⟩
        case measure => simp [intOf]; omega
    · go_wp2
      go_ret2
      obtain rfl : k = n := by omega
      exact ⟨by rw [HT.out]; rfl, hbel⟩
theorem rword_gen (l : List (BitVec 8)) (A : Option Addr) (cap : Nat) (bits o : Int) (w : World) (hr : RdB w A l) (hl : l.length ≤ cap) :
    Calls Try.prog 24 #[.slice A l.length cap, .int .i64 bits, .int .i64 o] w fun e w' => e = .returned (.tuple #[.int .u64 (wordV l bits o), .int .i64 (wordE l bits o)]) ∧ Below w.heap.size w w' := by
  by_cases h : code bits o = 0
  · obtain ⟨⟨n, hn⟩, ho⟩ := code_zero bits o h
    obtain rfl : (bits / 8).toNat = n := by omega
    by_cases hs : l.length < (bits / 8).toNat
    · have e : wordE l bits o = 11 := by unfold wordE; rw [if_pos h, if_pos hs]
      rw [wordV, e, if_neg (by decide)]
      exact rword_short A l.length cap _ bits o w hn ho hs
    · have e : wordE l bits o = 0 := by unfold wordE; rw [if_pos h, if_neg hs]
      rw [wordV, e, if_pos rfl]
      obtain ⟨x, hx1, hx2, _⟩ := numOf_word l (bits / 8).toNat o (by omega) (by omega)
      rw [← hx2]
      exact rword_ok x _ cap bits o l A w hr hl hx1 hn ho
  · have e : wordE l bits o = code bits o := by unfold wordE; rw [if_neg h]
    rw [wordV, e, if_neg h]
    exact rword_bad A l.length cap bits o w h
end Go.Proofs.Ytecaiaobbjddeaa
