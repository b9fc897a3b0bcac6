import Derived.Test.YtecaiaobbjddeaaB
/-! word.Bytes: a number's bytes, and what it leans on (turned from chapter 02's text F). -/
namespace Go.Proofs.Ytecaiaobbjddeaa
open Go.RowKit
set_option linter.unusedVariables false
set_option linter.unusedSimpArgs false

theorem width_ok (n : Int) (w : World) (h : n = 8 ∨ n = 16 ∨ n = 32 ∨ n = 64) : Calls Try.prog 30 #[.int .i64 n] w fun e w' => e = .returned (.int .i64 0) ∧ w = w' := by
  rcases h with rfl | rfl | rfl | rfl
  all_goals
    go_enter Try.func30, Try.ntmps30
    go_wp2
    go_ret
    exact ⟨rfl, rfl⟩
theorem way_ok (n o : Int) (w : World) (h : n = 8 ∨ n = 16 ∨ n = 32 ∨ n = 64) (ho : o = 1 ∨ o = 2) : Calls Try.prog 33 #[.int .i64 n, .int .i64 o] w fun e w' => e = .returned (.int .i64 0) ∧ w = w' := by
  rcases ho with rfl | rfl
  all_goals
    go_enter Try.func33, Try.ntmps33
    go_wp2_with (go_at_call 30; refine (width_ok n _ h).mono ?_; rintro e w' ⟨rfl, rfl⟩)
    go_ret
    exact ⟨rfl, rfl⟩

/-- By how many bits the i-th byte is moved. -/
def shiftOf (n o i : Int) : Int := if o = 1 then 8 * (n - 1 - i) else 8 * i
theorem shift_any (i n o : Int) (w : World) (h0 : 0 ≤ i) (h1 : i < n) (h2 : n ≤ 8) (ho : o = 1 ∨ o = 2) :
    Calls Try.prog 34 #[.int .i64 i, .int .i64 n, .int .i64 o] w fun e w' => e = .returned (.int .u64 (shiftOf n o i)) ∧ w = w' := by
  rcases ho with rfl | rfl
  all_goals
    go_enter Try.func34, Try.ntmps34
    go_wp2
    go_ret
    exact ⟨rfl, rfl⟩

/-- Byte j of a number, the lowest one first. -/
def byteAt (x : BitVec 64) (j : Nat) : BitVec 8 := (x >>> (8 * j)).setWidth 8
/-- Which byte stands at place i of n. -/
def which (n : Nat) (o : Int) (i : Nat) : Nat := if o = 1 then n - 1 - i else i
/-- A number's bytes. -/
def wordBytes (x : BitVec 64) (n : Nat) (o : Int) : List (BitVec 8) := (List.range n).map fun i => byteAt x (which n o i)
theorem length_wordBytes (x : BitVec 64) (n : Nat) (o : Int) : (wordBytes x n o).length = n := by simp [wordBytes]
theorem byte_of (x : BitVec 64) (n : Nat) (o : Int) (i : Nat) (hi : i < n) (ho : o = 1 ∨ o = 2) (V : Int) (hV : (x.toNat : Int) / 2 ^ (shiftOf n o i).toNat = V) : V % (256 : Int) = ((byteAt x (which n o i)).toNat : Int) := by
  have e : (shiftOf n o i).toNat = 8 * which n o i := by
    unfold shiftOf which
    rcases ho with rfl | rfl <;> simp <;> omega
  rw [← hV, e]
  unfold byteAt
  rw [BitVec.toNat_setWidth, BitVec.toNat_ushiftRight, Nat.shiftRight_eq_div_pow]
  simp
/-- The row while it is being filled: the first k bytes are there. -/
def filling (x : BitVec 64) (n : Nat) (o : Int) (k : Nat) : Array Value := ((List.range n).map fun i => if i < k then Value.int .u8 ((byteAt x (which n o i)).toNat : Int) else .int .u8 0).toArray
theorem filling_zero (x : BitVec 64) (n : Nat) (o : Int) : filling x n o 0 = madeCells #[.int .u8 0] n := by
  apply Array.ext'
  rw [toList_madeCells_one]
  unfold filling
  apply List.ext_getElem
  · simp
  · intro i h1 h2; simp
theorem filling_set (x : BitVec 64) (n : Nat) (o : Int) (k : Nat) : (filling x n o k).setIfInBounds k (.int .u8 ((byteAt x (which n o k)).toNat : Int)) = filling x n o (k + 1) := by
  apply Array.ext'
  unfold filling
  rw [Array.toList_setIfInBounds]
  apply List.ext_getElem
  · simp
  · intro i h1 h2
    rw [List.getElem_set]
    simp only [List.getElem_map, List.getElem_range]
    by_cases h : k = i
    · subst h; simp
    · simp [h, show (i < k + 1) ↔ i < k by omega]
theorem filling_all (x : BitVec 64) (n : Nat) (o : Int) : filling x n o n = ((wordBytes x n o).map fun b => Value.int .u8 (b.toNat : Int)).toArray := by
  unfold filling wordBytes
  apply Array.ext
  · simp
  · intro i h1 h2
    simp at h1
    simp [h1]
theorem size_filling (x : BitVec 64) (n : Nat) (o : Int) (k : Nat) : (filling x n o k).size = n := by simp [filling]
theorem cell_filling (x : BitVec 64) (n : Nat) (o : Int) (k : Nat) (w : World) (hk : k < n) : (w.alloc (.cells (filling x n o k) 5)).cell? ⟨w.heap.size, k, none⟩ = some (.int .u8 0) :=
  cell_new w _ 5 _ k _ (by simp [filling, hk])

theorem bytes_any (x : BitVec 64) (n : Nat) (bits o : Int) (w : World) (hn : bits = 8 ∧ n = 1 ∨ bits = 16 ∧ n = 2 ∨ bits = 32 ∧ n = 4 ∨ bits = 64 ∧ n = 8) (ho : o = 1 ∨ o = 2) :
    Calls Try.prog 21 #[.int .u64 x.toNat, .int .i64 bits, .int .i64 o] w fun e w' =>
      e = .returned (.tuple #[.slice (some ⟨w.heap.size, 0, none⟩) n n, .int .i64 0]) ∧ w.alloc (.cells ((wordBytes x n o).map fun b => Value.int .u8 (b.toNat : Int)).toArray 5) = w' := by
  have hn8 : n ≤ 8 := by omega
  have hbits : bits = 8 ∨ bits = 16 ∨ bits = 32 ∨ bits = 64 := by omega
  have hq : bits / 8 = n := by omega
  have hb0 : 0 ≤ bits := by omega
  have hmk := run_make_row' (P := Try.prog) 33 5 (.int .u8 0) 1 Try.underlying33 info5 rfl .i64 .i64 n (by omega) (by omega)
  have Hall := Lib.hid (filling_all x n o)
  have Hz := Lib.hid (filling_zero x n o)
  clear hn
  go_enter Try.func21, Try.ntmps21
  go_wp2_with (go_at_call 33; refine (way_ok bits o _ hbits ho).mono ?_; rintro e w' ⟨rfl, rfl⟩)
  rw [← Hz.out]
  clear hmk Hz hq
  go_loopw [10, 22] (fun j i wr => ∃ k : Nat, k ≤ n ∧ i = .int .i64 k ∧ wr = w.alloc (.cells (filling x n o k) 5)) (fun _ i _ => n - (intOf i).toNat)
  case atStart => exact ⟨0, Nat.zero_le _, rfl, rfl⟩
  case round =>
    obtain ⟨k, hk, rfl, rfl⟩ := hrel
    by_cases hlt : k < n
    · have hcell := cell_filling x n o k w hlt
      obtain ⟨c, hc⟩ : ∃ c, shiftOf n o k = c := ⟨_, rfl⟩
      have hs0 : 0 ≤ c := by rw [← hc]; unfold shiftOf; split <;> omega
      have hs1 : c ≤ 56 := by rw [← hc]; unfold shiftOf; split <;> omega
      obtain ⟨V, hV⟩ : ∃ V, (x.toNat : Int) / 2 ^ c.toNat = V := ⟨_, rfl⟩
      have HV := Lib.hid (byte_of x n o k hlt ho V (by rw [hc]; exact hV))
      have hV0 : 0 ≤ V := by rw [← hV]; exact Int.ediv_nonneg (by omega) (Int.le_of_lt (Int.pow_pos (by omega)))
      have Hc := Lib.hid hc
      clear hc
      go_wp2_with (go_at_call 34; refine (shift_any k n o _ (by omega) (by omega) (by omega) ho).mono ?_; rintro e w' ⟨rfl, rfl⟩; rw [Hc.out])
      go_roundw
      case rel => exact ⟨k + 1, by omega, by go_num, by rw [HV.out, filling_set]⟩
      case measure => simp [intOf]; omega
    · go_wp2
      go_ret2
      obtain rfl : k = n := by omega
      exact ⟨rfl, by rw [Hall.out]⟩
end Go.Proofs.Ytecaiaobbjddeaa
