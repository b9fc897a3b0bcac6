import Derived.Test.YtjaakhjfpigdfaaChecked
import Derived.Test.YtjaakhjfpigdfaaK
import Derived.Laws.AppendOwnNone
/-! word.Bytes, word.Words and what they lean on (turned from chapter 01's texts F, G, P, T, U). -/
namespace Go.Proofs.Ytjaakhjfpigdfaa
open Go.RowKit
set_option linter.unusedVariables false
set_option linter.unusedSimpArgs false
theorem info5 : (Try.prog.info? 5).map (fun i => (i.zero, i.size, i.bytes)) = some (some (.int .u8 0), 1, 1) := by kernel_rfl
theorem bytesV_app (p q : List (BitVec 8)) : bytesV (p ++ q) = bytesV p ++ bytesV q := by simp [bytesV]
theorem width_ok (n : Int) (w : World) (h : n = 8 ∨ n = 16 ∨ n = 32 ∨ n = 64) : Calls Try.prog 116 #[.int .i64 n] w fun e w' => e = .returned (.int .i64 0) ∧ w = w' := by
  rcases h with rfl | rfl | rfl | rfl
  all_goals
    go_enter Try.func116, Try.ntmps116
    go_wp2
    go_ret
    exact ⟨rfl, rfl⟩
theorem way_ok (n o : Int) (w : World) (h : n = 8 ∨ n = 16 ∨ n = 32 ∨ n = 64) (ho : o = 1 ∨ o = 2) : Calls Try.prog 99 #[.int .i64 n, .int .i64 o] w fun e w' => e = .returned (.int .i64 0) ∧ w = w' := by
  rcases ho with rfl | rfl
  all_goals
    go_enter Try.func99, Try.ntmps99
    go_wp2_with (go_at_call 116; refine (width_ok n _ h).mono ?_; rintro e w' ⟨rfl, rfl⟩)
    go_ret
    exact ⟨rfl, rfl⟩

/-- By how many bits the i-th byte is moved. -/
def shiftOf (n o i : Int) : Int := if o = 1 then 8 * (n - 1 - i) else 8 * i
theorem shift_any (i n o : Int) (w : World) (h0 : 0 ≤ i) (h1 : i < n) (h2 : n ≤ 8) (ho : o = 1 ∨ o = 2) :
    Calls Try.prog 100 #[.int .i64 i, .int .i64 n, .int .i64 o] w fun e w' => e = .returned (.int .u64 (shiftOf n o i)) ∧ w = w' := by
  rcases ho with rfl | rfl
  all_goals
    go_enter Try.func100, Try.ntmps100
    go_wp2
    go_ret
    exact ⟨rfl, rfl⟩

/-- Byte j of a number, the lowest one first. -/
def byteAt (x : BitVec 64) (j : Nat) : BitVec 8 := (x >>> (8 * j)).setWidth 8
/-- Which byte stands at place i of n. -/
def which (n : Nat) (o : Int) (i : Nat) : Nat := if o = 1 then n - 1 - i else i
/-- A number's bytes. -/
def wordBytes (x : BitVec 64) (n : Nat) (o : Int) : List (BitVec 8) := (List.range n).map fun i => byteAt x (which n o i)
theorem length_wordBytes (x : BitVec 64) (n : Nat) (o : Int) : (wordBytes x n o).length = n := by simp [wordBytes]
theorem byte_of (x : BitVec 64) (n : Nat) (o : Int) (i : Nat) (hi : i < n) (ho : o = 1 ∨ o = 2) (V : Int) (hV : (x.toNat : Int) / 2 ^ (shiftOf n o i).toNat = V) : V % (256 : Int) = ((byteAt x (which n o i)).toNat : Int) := by
  have e : (shiftOf n o i).toNat = 8 * which n o i := by
    unfold shiftOf which
    rcases ho with rfl | rfl <;> simp <;> omega
  rw [← hV, e]
  unfold byteAt
  rw [BitVec.toNat_setWidth, BitVec.toNat_ushiftRight, Nat.shiftRight_eq_div_pow]
  simp
/-- The row while it is being filled: the first k bytes are there. -/
def filling (x : BitVec 64) (n : Nat) (o : Int) (k : Nat) : Array Value := ((List.range n).map fun i => if i < k then Value.int .u8 ((byteAt x (which n o i)).toNat : Int) else .int .u8 0).toArray
theorem filling_zero (x : BitVec 64) (n : Nat) (o : Int) : filling x n o 0 = madeCells #[.int .u8 0] n := by
  apply Array.ext'
  rw [toList_madeCells_one]
  unfold filling
  apply List.ext_getElem
  · simp
  · intro i h1 h2; simp
theorem filling_set (x : BitVec 64) (n : Nat) (o : Int) (k : Nat) : (filling x n o k).setIfInBounds k (.int .u8 ((byteAt x (which n o k)).toNat : Int)) = filling x n o (k + 1) := by
  apply Array.ext'
  unfold filling
  rw [Array.toList_setIfInBounds]
  apply List.ext_getElem
  · simp
  · intro i h1 h2
    rw [List.getElem_set]
    simp only [List.getElem_map, List.getElem_range]
    by_cases h : k = i
    · subst h; simp
    · simp [h, show (i < k + 1) ↔ i < k by omega]
theorem filling_all (x : BitVec 64) (n : Nat) (o : Int) : filling x n o n = ((wordBytes x n o).map fun b => Value.int .u8 (b.toNat : Int)).toArray := by
  unfold filling wordBytes
  apply Array.ext
  · simp
  · intro i h1 h2
    simp at h1
    simp [h1]
theorem size_filling (x : BitVec 64) (n : Nat) (o : Int) (k : Nat) : (filling x n o k).size = n := by simp [filling]
theorem cell_filling (x : BitVec 64) (n : Nat) (o : Int) (k : Nat) (w : World) (hk : k < n) : (w.alloc (.cells (filling x n o k) 5)).cell? ⟨w.heap.size, k, none⟩ = some (.int .u8 0) :=
  cell_new w _ 5 _ k _ (by simp [filling, hk])

theorem bytes_any (x : BitVec 64) (n : Nat) (bits o : Int) (w : World) (hn : bits = 8 ∧ n = 1 ∨ bits = 16 ∧ n = 2 ∨ bits = 32 ∧ n = 4 ∨ bits = 64 ∧ n = 8) (ho : o = 1 ∨ o = 2) :
    Calls Try.prog 80 #[.int .u64 x.toNat, .int .i64 bits, .int .i64 o] w fun e w' =>
      e = .returned (.tuple #[.slice (some ⟨w.heap.size, 0, none⟩) n n, .int .i64 0]) ∧ w.alloc (.cells ((wordBytes x n o).map fun b => Value.int .u8 (b.toNat : Int)).toArray 5) = w' := by
  have hn8 : n ≤ 8 := by omega
  have hbits : bits = 8 ∨ bits = 16 ∨ bits = 32 ∨ bits = 64 := by omega
  have hq : bits / 8 = n := by omega
  have hb0 : 0 ≤ bits := by omega
  have hmk := run_make_row' (P := Try.prog) 35 5 (.int .u8 0) 1 Try.underlying35 info5 rfl .i64 .i64 n (by omega) (by omega)
  have Hall := Lib.hid (filling_all x n o)
  have Hz := Lib.hid (filling_zero x n o)
  clear hn
  go_enter Try.func80, Try.ntmps80
  go_wp2_with (go_at_call 99; refine (way_ok bits o _ hbits ho).mono ?_; rintro e w' ⟨rfl, rfl⟩)
  rw [← Hz.out]
  clear hmk Hz hq
  go_loopw [10, 22] (fun j i wr => ∃ k : Nat, k ≤ n ∧ i = .int .i64 k ∧ wr = w.alloc (.cells (filling x n o k) 5)) (fun _ i _ => n - (intOf i).toNat)
  case atStart => exact ⟨0, Nat.zero_le _, rfl, rfl⟩
  case round =>
    obtain ⟨k, hk, rfl, rfl⟩ := hrel
    by_cases hlt : k < n
    · have hcell := cell_filling x n o k w hlt
      obtain ⟨c, hc⟩ : ∃ c, shiftOf n o k = c := ⟨_, rfl⟩
      have hs0 : 0 ≤ c := by rw [← hc]; unfold shiftOf; split <;> omega
      have hs1 : c ≤ 56 := by rw [← hc]; unfold shiftOf; split <;> omega
      obtain ⟨V, hV⟩ : ∃ V, (x.toNat : Int) / 2 ^ c.toNat = V := ⟨_, rfl⟩
      have HV := Lib.hid (byte_of x n o k hlt ho V (by rw [hc]; exact hV))
      have hV0 : 0 ≤ V := by rw [← hV]; exact Int.ediv_nonneg (by omega) (Int.le_of_lt (Int.pow_pos (by omega)))
      have Hc := Lib.hid hc
      clear hc
      go_wp2_with (go_at_call 100; refine (shift_any k n o _ (by omega) (by omega) (by omega) ho).mono ?_; rintro e w' ⟨rfl, rfl⟩; rw [Hc.out])
      go_roundw
      case rel => exact ⟨k + 1, by omega, by go_num, by rw [HV.out, filling_set]⟩
      case measure => simp [intOf]; omega
    · go_wp2
      go_ret2
      obtain rfl : k = n := by omega
      exact ⟨rfl, by rw [Hall.out]⟩
/-- What has been gathered of x behind k of n bytes. -/
def numAt (x n : Nat) (o : Int) (k : Nat) : Nat := if o = 1 then x % 2 ^ (8 * n) / 2 ^ (8 * (n - k)) * 2 ^ (8 * (n - k)) else x % 2 ^ (8 * k)
theorem numAt_zero (x n : Nat) (o : Int) : numAt x n o 0 = 0 := by
  unfold numAt
  split
  · rw [Nat.sub_zero, Nat.div_eq_of_lt (Nat.mod_lt _ (Nat.pow_pos (by omega)))]; simp
  · simp [Nat.mod_one]
theorem numAt_all (x n : Nat) (o : Int) : numAt x n o n = x % 2 ^ (8 * n) := by
  unfold numAt
  split <;> simp
theorem numAt_lt (x n : Nat) (o : Int) (k : Nat) (hn : n ≤ 8) (hk : k ≤ n) : numAt x n o k < 18446744073709551616 := by
  have h1 : x % 2 ^ (8 * n) < 2 ^ (8 * n) := Nat.mod_lt _ (Nat.pow_pos (by omega))
  have h2 : 2 ^ (8 * n) ≤ 2 ^ 64 := Nat.pow_le_pow_right (by omega) (by omega)
  have h3 : (2 : Nat) ^ 64 = 18446744073709551616 := by decide
  unfold numAt
  split
  · have := Nat.div_mul_le_self (x % 2 ^ (8 * n)) (2 ^ (8 * (n - k))); omega
  · have h4 : x % 2 ^ (8 * k) < 2 ^ (8 * k) := Nat.mod_lt _ (Nat.pow_pos (by omega))
    have h5 : 2 ^ (8 * k) ≤ 2 ^ 64 := Nat.pow_le_pow_right (by omega) (by omega)
    omega
theorem byte_nat (x : BitVec 64) (j : Nat) : (byteAt x j).toNat = x.toNat / 2 ^ (8 * j) % 256 := by
  unfold byteAt
  rw [BitVec.toNat_setWidth, BitVec.toNat_ushiftRight, Nat.shiftRight_eq_div_pow]
/-- The next byte. -/
theorem numAt_step (x n : Nat) (o : Int) (k : Nat) (hk : k < n) (ho : o = 1 ∨ o = 2) :
    numAt x n o (k + 1) = numAt x n o k + x / 2 ^ (8 * which n o k) % 256 * 2 ^ (8 * which n o k) ∧ numAt x n o (k + 1) = numAt x n o k ||| x / 2 ^ (8 * which n o k) % 256 * 2 ^ (8 * which n o k) := by
  have hb : x / 2 ^ (8 * which n o k) % 256 < 256 := Nat.mod_lt _ (by omega)
  rcases ho with rfl | rfl
  · obtain ⟨m, hm⟩ : ∃ m, n - k = m + 1 := ⟨n - k - 1, by omega⟩
    have hw : which n 1 k = m := by unfold which; simp; omega
    rw [hw] at hb ⊢
    unfold numAt
    rw [if_pos rfl, if_pos rfl, hm, show n - (k + 1) = m by omega]
    have e1 : x / 2 ^ (8 * m) % 256 = x % 2 ^ (8 * n) / 2 ^ (8 * m) % 256 := by
      have : (2 : Nat) ^ (8 * n) = 2 ^ (8 * m) * (256 * 2 ^ (8 * (n - m - 1))) := by
        rw [show (256 : Nat) = 2 ^ 8 by decide, ← Nat.pow_add, ← Nat.pow_add]; congr 1; omega
      rw [this, Nat.mod_mul_right_div_self, Nat.mod_mul_right_mod]
    rw [e1]
    generalize x % 2 ^ (8 * n) = y at *
    have e2 : (2 : Nat) ^ (8 * (m + 1)) = 2 ^ (8 * m) * 256 := by rw [show (256 : Nat) = 2 ^ 8 by decide, ← Nat.pow_add]; congr 1
    rw [e2, ← Nat.div_div_eq_div_mul]
    generalize y / 2 ^ (8 * m) = a at *
    have ha : a = a / 256 * 256 + a % 256 := by omega
    have s1 : a * 2 ^ (8 * m) = a / 256 * (2 ^ (8 * m) * 256) + a % 256 * 2 ^ (8 * m) := by
      conv => lhs; rw [ha, Nat.add_mul]
      rw [Nat.mul_assoc, Nat.mul_comm 256]
    refine ⟨s1, ?_⟩
    have s2 := Nat.shiftLeft_add_eq_or_of_lt (i := 8 * (m + 1)) (b := a % 256 * 2 ^ (8 * m)) (by
      rw [e2, Nat.mul_comm (2 ^ (8 * m))]
      exact Nat.mul_lt_mul_of_pos_right (Nat.mod_lt _ (by omega)) (Nat.pow_pos (by omega))) (a / 256)
    rw [Nat.shiftLeft_eq, e2] at s2
    rw [← s2, s1]
  · have hw : which n 2 k = k := by unfold which; simp
    rw [hw] at hb ⊢
    unfold numAt
    rw [if_neg (by decide), if_neg (by decide)]
    have s1 : x % 2 ^ (8 * (k + 1)) = x % 2 ^ (8 * k) + x / 2 ^ (8 * k) % 256 * 2 ^ (8 * k) := by
      rw [show (2 : Nat) ^ (8 * (k + 1)) = 2 ^ (8 * k) * 256 by rw [show (256 : Nat) = 2 ^ 8 by decide, ← Nat.pow_add]; congr 1, Nat.mod_mul, Nat.mul_comm (2 ^ (8 * k))]
    refine ⟨s1, ?_⟩
    have s2 := Nat.shiftLeft_add_eq_or_of_lt (i := 8 * k) (b := x % 2 ^ (8 * k)) (Nat.mod_lt _ (Nat.pow_pos (by omega))) (x / 2 ^ (8 * k) % 256)
    rw [Nat.shiftLeft_eq] at s2
    rw [s1, Nat.or_comm, ← s2, Nat.add_comm]

set_option maxRecDepth 100000 in
set_option maxHeartbeats 2000000 in
theorem number_any (x : BitVec 64) (n len cap : Nat) (o : Int) (A : Option Addr) (w : World) (hlen : len = n) (hr : RdB w A (wordBytes x n o)) (hn : n ≤ 8) (hc : n ≤ cap) (ho : o = 1 ∨ o = 2) :
    Calls Try.prog 115 #[.slice A len cap, .int .i64 o] w fun e w' => e = .returned (.int .u64 ((x.toNat % 2 ^ (8 * n) : Nat) : Int)) ∧ w = w' := by
  subst hlen
  have Hr := Lib.hid hr
  clear hr
  obtain ⟨T, hT⟩ : ∃ T, x.toNat % 2 ^ (8 * len) = T := ⟨_, rfl⟩
  rw [hT]
  have HT := Lib.hid ((numAt_all x.toNat len o).trans hT)
  clear hT
  go_enter Try.func115, Try.ntmps115
  go_wp2
  go_loop [5, 10] (fun v i => ∃ k : Nat, k ≤ len ∧ i = .int .i64 k ∧ v = .int .u64 (numAt x.toNat len o k : Nat)) (fun _ i => len - (intOf i).toNat)
  case atStart => exact ⟨0, Nat.zero_le _, rfl, by rw [numAt_zero]; rfl⟩
  case round =>
    obtain ⟨k, hk, rfl, rfl⟩ := hrel
    by_cases hlt : k < len
    · obtain ⟨ad, rfl, hcell⟩ := Hr.out.at' k (by rw [length_wordBytes]; exact hlt)
      have hbe : (wordBytes x len o)[k]'(by rw [length_wordBytes]; exact hlt) = byteAt x (which len o k) := by simp [wordBytes]
      rw [hbe, byte_nat] at hcell
      obtain ⟨s1, s2⟩ := numAt_step x.toNat len o k hlt ho
      have l1 := numAt_lt x.toNat len o (k + 1) hn (by omega)
      have l0 := numAt_lt x.toNat len o k hn (by omega)
      have hb : x.toNat / 2 ^ (8 * which len o k) % 256 < 256 := Nat.mod_lt _ (by omega)
      have hsn : (shiftOf len o k).toNat = 8 * which len o k := by
        unfold shiftOf which
        rcases ho with rfl | rfl <;> simp <;> omega
      obtain ⟨c, hcc⟩ : ∃ c, shiftOf len o k = c := ⟨_, rfl⟩
      have hs0 : 0 ≤ c := by rw [← hcc]; unfold shiftOf; split <;> omega
      have hs1 : c ≤ 56 := by rw [← hcc]; unfold shiftOf; split <;> omega
      rw [hcc] at hsn
      rw [← hsn] at s1 s2 hcell hb
      generalize x.toNat / 2 ^ c.toNat % 256 = B at *
      obtain ⟨N, hN⟩ : ∃ N, numAt x.toNat len o (k + 1) = N := ⟨_, rfl⟩
      obtain ⟨X, hX⟩ : ∃ X, numAt x.toNat len o k = X := ⟨_, rfl⟩
      obtain ⟨S, hS⟩ : ∃ S, B * 2 ^ c.toNat = S := ⟨_, rfl⟩
      rw [hN, hX, hS] at s1 s2
      rw [hN] at l1
      rw [hX] at l0 ⊢
      have hsh : IntKind.u64.wrap ((B : Int) * 2 ^ c.toNat) = (S : Int) := by
        have e : (B : Int) * 2 ^ c.toNat = (S : Int) := by rw [← hS]; push_cast; rfl
        rw [e, IntKind.wrap_u64]; omega
      have hor : bits .or .u64 (X : Int) (S : Int) = (N : Int) := by rw [u64_or_nat _ _ l0 (by omega), ← s2]
      have Hc := Lib.hid hcc
      have HN := Lib.hid hN
      clear hcc hN hX hS s1 s2 hsn hbe
      go_wp2_with (go_at_call 100; refine (shift_any k len o _ (by omega) (by omega) (by omega) ho).mono ?_; rintro e w' ⟨rfl, rfl⟩; rw [Hc.out])
      go_round
      case rel => exact ⟨k + 1, by omega, by go_num, by rw [HN.out]⟩
      case measure => simp [intOf]; omega
    · go_wp2
      go_ret
      obtain rfl : k = len := by omega
      exact ⟨ret_int (by rw [HT.out]), rfl⟩
def assemble (f : Nat → BitVec 8) : Nat → Nat
  | 0 => 0
  | n + 1 => assemble f n + (f n).toNat * 2 ^ (8 * n)
theorem assemble_lt (f : Nat → BitVec 8) : ∀ n, assemble f n < 2 ^ (8 * n)
  | 0 => by simp [assemble]
  | n + 1 => by
    have h := assemble_lt f n
    have hf := (f n).isLt
    have e : (2 : Nat) ^ (8 * (n + 1)) = 256 * 2 ^ (8 * n) := by rw [show (256 : Nat) = 2 ^ 8 by decide, ← Nat.pow_add]; congr 1; omega
    have : ((f n).toNat + 1) * 2 ^ (8 * n) ≤ 256 * 2 ^ (8 * n) := Nat.mul_le_mul_right _ (by omega)
    rw [Nat.add_mul] at this
    rw [assemble, e]; omega
theorem assemble_byte (f : Nat → BitVec 8) : ∀ n j, j < n → assemble f n / 2 ^ (8 * j) % 256 = (f j).toNat
  | 0, j, h => by omega
  | n + 1, j, h => by
    have hp : 0 < 2 ^ (8 * j) := Nat.pow_pos (by omega)
    have hf := (f n).isLt
    rw [assemble]
    rcases Nat.lt_or_ge j n with hj | hj
    · have e : (f n).toNat * 2 ^ (8 * n) = 2 ^ (8 * j) * (256 * ((f n).toNat * 2 ^ (8 * (n - j - 1)))) := by
        rw [show (2 : Nat) ^ (8 * n) = 2 ^ (8 * j) * (256 * 2 ^ (8 * (n - j - 1))) by rw [show (256 : Nat) = 2 ^ 8 by decide, ← Nat.pow_add, ← Nat.pow_add]; congr 1; omega]
        ac_rfl
      rw [e, Nat.add_mul_div_left _ _ hp, Nat.add_mul_mod_self_left]
      exact assemble_byte f n j hj
    · obtain rfl : j = n := by omega
      rw [Nat.mul_comm, Nat.add_mul_div_left _ _ hp, Nat.div_eq_of_lt (assemble_lt f j)]
      omega
theorem which_which (n : Nat) (o : Int) (i : Nat) (h : i < n) : which n o (which n o i) = i := by
  unfold which
  split <;> omega
theorem which_lt (n : Nat) (o : Int) (i : Nat) (h : i < n) : which n o i < n := by
  unfold which
  split <;> omega
theorem any_bytes (l : List (BitVec 8)) (n : Nat) (o : Int) (hl : l.length = n) (hn : n ≤ 8) : ∃ x : BitVec 64, wordBytes x n o = l := by
  let f : Nat → BitVec 8 := fun j => l.getD (which n o j) 0
  have hlt : assemble f n < 18446744073709551616 := by
    have h1 := assemble_lt f n
    have h2 : 2 ^ (8 * n) ≤ 2 ^ 64 := Nat.pow_le_pow_right (by omega) (by omega)
    have h3 : (2 : Nat) ^ 64 = 18446744073709551616 := by decide
    omega
  refine ⟨BitVec.ofNat 64 (assemble f n), ?_⟩
  apply List.ext_getElem
  · rw [length_wordBytes, hl]
  · intro i h1 h2
    have hi : i < n := by rw [length_wordBytes] at h1; exact h1
    apply BitVec.eq_of_toNat_eq
    simp only [wordBytes, List.getElem_map, List.getElem_range]
    rw [byte_nat, BitVec.toNat_ofNat, show assemble f n % 2 ^ 64 = assemble f n from Nat.mod_eq_of_lt hlt, assemble_byte f n _ (which_lt n o i hi)]
    show (l.getD (which n o (which n o i)) 0).toNat = _
    rw [which_which n o i hi, List.getD_eq_getElem?_getD, List.getElem?_eq_getElem h2]
    rfl
/-- The number of the first n bytes. -/
def numOf (l : List (BitVec 8)) (n : Nat) (o : Int) : Nat := assemble (fun j => l.getD (which n o j) 0) n
theorem numOf_lt (l : List (BitVec 8)) (n : Nat) (o : Int) : numOf l n o < 2 ^ (8 * n) := assemble_lt _ n
theorem numOf_word (l : List (BitVec 8)) (n : Nat) (o : Int) (hl : n ≤ l.length) (hn : n ≤ 8) : ∃ x : BitVec 64, l.take n = wordBytes x n o ∧ x.toNat % 2 ^ (8 * n) = numOf l n o ∧ x.toNat = numOf l n o := by
  have hlt := numOf_lt l n o
  have h2 : 2 ^ (8 * n) ≤ 2 ^ 64 := Nat.pow_le_pow_right (by omega) (by omega)
  have h3 : (2 : Nat) ^ 64 = 18446744073709551616 := by decide
  have e : (BitVec.ofNat 64 (numOf l n o)).toNat = numOf l n o := by rw [BitVec.toNat_ofNat]; exact Nat.mod_eq_of_lt (by omega)
  refine ⟨BitVec.ofNat 64 (numOf l n o), ?_, by rw [e]; exact Nat.mod_eq_of_lt hlt, e⟩
  apply List.ext_getElem
  · rw [length_wordBytes, List.length_take]; omega
  · intro i h1 h2
    have hi : i < n := by rw [length_wordBytes] at h2; exact h2
    apply BitVec.eq_of_toNat_eq
    simp only [wordBytes, List.getElem_map, List.getElem_range]
    rw [byte_nat, e, numOf, assemble_byte _ n _ (which_lt n o i hi), which_which n o i hi, List.getD_eq_getElem?_getD, List.getElem?_eq_getElem (by omega)]
    simp
theorem info33 : (Try.prog.info? 33).map (fun i => (i.zero, i.size, i.bytes)) = some (some (.int .u64 0), 1, 8) := by kernel_rfl
/-- The numbers of the first k pieces of n bytes. -/
def rowOf (l : List (BitVec 8)) (n : Nat) (o : Int) (k : Nat) : List Nat := (List.range k).map fun i => numOf (l.drop (i * n)) n o
theorem rowOf_succ (l : List (BitVec 8)) (n : Nat) (o : Int) (k : Nat) : rowOf l n o (k + 1) = rowOf l n o k ++ [numOf (l.drop (k * n)) n o] := by simp [rowOf, List.range_succ]
theorem rowOf_len (l : List (BitVec 8)) (n : Nat) (o : Int) (k : Nat) : (rowOf l n o k).length = k := by simp [rowOf]
def numsV (l : List Nat) : List Value := l.map fun (x : Nat) => Value.int .u64 (x : Int)
theorem numsV_snoc (l : List Nat) (x : Nat) : numsV l ++ [.int .u64 (x : Int)] = numsV (l ++ [x]) := by simp [numsV]
theorem numOf_lt64 (l : List (BitVec 8)) (n : Nat) (o : Int) (hn : n ≤ 8) : numOf l n o < 18446744073709551616 := by
  have h1 := numOf_lt l n o
  have h2 : 2 ^ (8 * n) ≤ 2 ^ 64 := Nat.pow_le_pow_right (by omega) (by omega)
  have h3 : (2 : Nat) ^ 64 = 18446744073709551616 := by decide
  omega
theorem own_below {w w' : World} {B e size n : Nat} {v : Value} {xs : List Value} (h : w.ownsRow B e size v n xs) (hb : Below w.heap.size w w') : w'.ownsRow B e size v n xs := by
  refine ⟨h.1, ?_⟩
  rcases h.2 with hn | ⟨g, cap, cur, rfl, hb1, hgg, rest⟩
  · exact .inl hn
  · refine .inr ⟨g, cap, cur, rfl, hb1, ?_, rest⟩
    rw [hb.block g (Array.getElem?_eq_some_iff.1 hgg).1]
    exact hgg
theorem oneU (x : Int) : ∀ u ∈ [Value.int .u64 x], u.oneCell' = true := by intro u hu; simp at hu; subst hu; rfl
/-- A row of numbers that may be read. -/
def RdU (w : World) (v : Value) (l : List Nat) : Prop := ∃ A c, v = .slice A l.length c ∧ l.length ≤ c ∧ RdR (fun x v => v = Value.int .u64 ((x : Nat) : Int)) w A l
theorem RdU.nil (w : World) : RdU w (.slice none 0 0) [] := ⟨none, 0, rfl, by simp, by simp, fun j hj => by simp at hj⟩
theorem RdU.own {w : World} {base n : Nat} {e : TypeId} {v : Value} {l : List Nat} (h : w.ownsRow base e 1 v n (numsV l)) : RdU w v l := by
  have hl : l.length = n := by have := h.1; simpa [numsV] using this
  rcases Joins.ownsRow_forms h with ⟨rfl, h0⟩ | ⟨g, cap, rfl⟩
  · obtain rfl : l = [] := List.eq_nil_of_length_eq_zero (by omega)
    exact RdU.nil w
  · have hm : n ≤ maxLen := by
      rcases h.2 with ⟨_, h1⟩ | ⟨g', cap', cur, he, _, _, h1, h2, _⟩
      · omega
      · simp only [Value.slice.injEq] at he; omega
    refine ⟨_, cap, by rw [hl], by rw [hl]; exact own_cap h, by rw [hl]; exact hm, fun j hj => ⟨_, _, rfl, h.cells (g := g) rfl j _ ?_, rfl⟩⟩
    simp [numsV, List.getElem?_eq_getElem hj]
theorem RdU.below {w w' : World} {v : Value} {l : List Nat} (h : RdU w v l) (hb : Below w.heap.size w w') : RdU w' v l := by
  obtain ⟨A, c, rfl, hc, hr⟩ := h
  exact ⟨A, c, rfl, hc, RdR.below hr hb (fun _ _ h => h)⟩

set_option maxRecDepth 100000 in
set_option maxHeartbeats 4000000 in
theorem words_ok (l : List (BitVec 8)) (A : Option Addr) (cap n : Nat) (bits o : Int) (w : World) (hr : RdB w A l) (hl : l.length ≤ cap) (hs : l.length ≤ 400) (hn : bits = 8 ∧ n = 1 ∨ bits = 16 ∧ n = 2 ∨ bits = 32 ∧ n = 4 ∨ bits = 64 ∧ n = 8) (ho : o = 1 ∨ o = 2) (hz : l.length % n = 0) :
    Calls Try.prog 98 #[.slice A l.length cap, .int .i64 bits, .int .i64 o] w fun e w' => ∃ v, e = .returned (.tuple #[v, .int .i64 0]) ∧ RdU w' v (rowOf l n o (l.length / n)) ∧ Below w.heap.size w w' := by
  obtain ⟨i0, hi, hz0, hz1, hz2⟩ := info_parts info33
  have hbits : bits = 8 ∨ bits = 16 ∨ bits = 32 ∨ bits = 64 := by omega
  have hq : bits.tdiv 8 = (n : Int) := by rcases hn with ⟨rfl, rfl⟩ | ⟨rfl, rfl⟩ | ⟨rfl, rfl⟩ | ⟨rfl, rfl⟩ <;> decide
  have hn8 : n ≤ 8 := by omega
  have hn1 : 1 ≤ n := by omega
  have hrem : (l.length : Int).tmod (n : Int) = 0 := by rw [Int.tmod_eq_emod_of_nonneg (by omega)]; omega
  obtain ⟨q, hqq⟩ : ∃ q, l.length / n = q := ⟨_, rfl⟩
  have hlq : l.length = q * n := by rw [← hqq, Nat.div_mul_cancel (Nat.dvd_of_mod_eq_zero hz)]
  have hquo : (l.length : Int).tdiv (n : Int) = (q : Int) := by rw [Int.tdiv_eq_ediv_of_nonneg (by omega), ← hqq]; omega
  have hq400 : q ≤ 400 := by have := Nat.div_le_self l.length n; omega
  rw [hqq]
  have Hbits := Lib.hid hbits
  have Ho := Lib.hid ho
  have Hr := Lib.hid hr
  have Hlq := Lib.hid hlq
  have b0 : -9223372036854775808 ≤ bits := by omega
  have b1 : bits ≤ 64 := by omega
  have c2 : (l.length : Int) ≤ (cap : Int) := by omega
  have hm := hr.1
  clear hn hbits hqq hlq hr hz
  go_enter Try.func98, Try.ntmps98
  go_wp2_with (go_at_call 99; refine (way_ok bits o _ Hbits.out Ho.out).mono ?_; rintro e w' ⟨rfl, rfl⟩)
  go_loopw [10, 29] (fun v i wr => ∃ k : Nat, k ≤ q ∧ i = .int .i64 k ∧ wr.ownsRow w.heap.size 33 1 v k (numsV (rowOf l n o k)) ∧ Below w.heap.size w wr) (fun _ i _ => q - (intOf i).toNat)
  case atStart => exact ⟨0, Nat.zero_le _, rfl, World.ownsRow_nil _ _ _ _, Below.refl _ _⟩
  case round =>
    obtain ⟨k, hk, rfl, hown, hbel⟩ := hrel
    by_cases hlt : k < q
    · have hkn : (k + 1) * n ≤ l.length := by rw [Hlq.out]; exact Nat.mul_le_mul_right n hlt
      have hk1 : (k + 1) * n = k * n + n := Nat.succ_mul k n
      have hm1 : (k : Int) * (n : Int) = ((k * n : Nat) : Int) := by push_cast; rfl
      have hm2 : ((k : Int) + 1) * (n : Int) = ((k * n + n : Nat) : Int) := by rw [← hk1]; push_cast; rfl
      rw [hk1] at hkn
      have hrow := rowOf_succ l n o k
      obtain ⟨p, hp⟩ : ∃ p, k * n = p := ⟨_, rfl⟩
      rw [hp] at hkn hm1 hm2 hrow
      have d1 : (p : Int) + n ≤ l.length := by omega
      have d2 : ((p + n : Nat) : Int) = (p : Int) + n := by push_cast; rfl
      have hdrop : n ≤ (l.drop p).length := by rw [List.length_drop]; omega
      obtain ⟨x, hx1, hx2, _⟩ := numOf_word (l.drop p) n o hdrop hn8
      have hrd : RdB wr A l := RdR.below Hr.out hbel (fun _ _ h => h)
      have hrp := (hrd.drop p cap (by omega) hl).take n
      rw [hx1] at hrp
      rw [if_neg (by omega)] at hrp
      have Hp := Lib.hid hrp
      have Hx := Lib.hid hx2
      have Hrow := Lib.hid hrow
      have hT := numOf_lt64 (l.drop p) n o hn8
      obtain ⟨T, hTT⟩ : ∃ T, numOf (l.drop p) n o = T := ⟨_, rfl⟩
      have HT := Lib.hid hTT
      rw [hTT] at hT
      clear hrp hx1 hx2 hrow hp hTT hdrop
      go_wp2_with (first | (go_at_call 115; refine (number_any x n n (cap - p) o _ _ rfl Hp.out hn8 (by omega) Ho.out).mono ?_; rintro e w' ⟨rfl, rfl⟩; rw [Hx.out, HT.out]) | (at_builtin; go_loud (refine wpList_append_own _ rfl (.tmp 32) (.tmp 44) 125 rfl w.heap.size 33 i0 (.int .u64 0) 1 8 Try.underlying125 hi hz0 hz1 hz2 rfl (by decide) _ _ _ rfl (hown.alloc _) ⟨wr.heap.size, 0, none⟩ 1 1 [.int .u64 (T : Int)] rfl rfl (cell_one_new _ _ _) (oneU _) (by unfold maxLen; omega) (by omega) (append_base hbel (Nat.le_refl _) _) ?_; intro v' w2 hown' hgrow _)) | fail)
      have hb2 : Below w.heap.size w w2 := (hbel.alloc hbel.size _).grown hgrow (by have := hbel.size; simp; omega) (own_base' hown)
      clear hgrow
      rw [numsV_snoc, ← HT.out, ← Hrow.out] at hown'
      go_roundw
      case rel => exact ⟨k + 1, by omega, by go_num, hown', hb2⟩
      case measure => simp [intOf]; omega
    · go_wp2
      go_ret2
      obtain rfl : k = q := by omega
      exact ⟨_, rfl, RdU.own hown, hbel⟩

end Go.Proofs.Ytjaakhjfpigdfaa
