import Derived.Test.YtecaiaobbjddeaaP
import Derived.Test.YtecaiaobbjddeaaQ
import Derived.Test.YtecaiaobbjddeaaJ
import Derived.Laws.AppendOwnNone
/-! Bytes, in all cases: word's and the document's. -/
namespace Go.Proofs.Ytecaiaobbjddeaa
open Go.RowKit
set_option linter.unusedVariables false
set_option linter.unusedSimpArgs false

/-- Why a width or an order may not be. -/
def code (bits o : Int) : Int := if bits = 8 ∨ bits = 16 ∨ bits = 32 ∨ bits = 64 then (if o = 1 ∨ o = 2 then 0 else 1) else 10
theorem asked_ok (n o : Int) (w : World) (h : n = 8 ∨ n = 16 ∨ n = 32 ∨ n = 64) (ho : o = 1 ∨ o = 2) : Calls Try.prog 35 #[.int .i64 n, .int .i64 o] w fun e w' => e = .returned (.int .i64 0) ∧ Below w.heap.size w w' := by
  have W1 := Lib.hid (show PWordTurns.salternref01_Width.f n = some true by rcases h with rfl | rfl | rfl | rfl <;> rfl)
  have H := Lib.hid h
  clear h
  rcases ho with rfl | rfl
  all_goals
    go_enter Try.func35, Try.ntmps35
    go_wp2_with (go_at_call 28; refine (PWordTurns.salternref01_Width.calls n true _ W1.out).mono ?_; rintro e w6 ⟨rfl, ⟨nd3, rfl⟩⟩)
    go_ret
    exact ⟨rfl, rfl, rfl, rfl, Nat.le_refl _, fun _ _ => rfl⟩
theorem way_any (n o : Int) (w : World) : Calls Try.prog 33 #[.int .i64 n, .int .i64 o] w fun e w' => e = .returned (.int .i64 (code n o)) ∧ w = w' := by
  unfold code
  by_cases h : n = 8 ∨ n = 16 ∨ n = 32 ∨ n = 64
  · rw [if_pos h]
    by_cases ho : o = 1 ∨ o = 2
    · rw [if_pos ho]; exact way_ok n o w h ho
    · rw [if_neg ho]; exact way_order n o w h ho
  · rw [if_neg h]; exact way_no n o w h
theorem asked_any (n o : Int) (w : World) : Calls Try.prog 35 #[.int .i64 n, .int .i64 o] w fun e w' => e = .returned (.int .i64 (code n o)) ∧ Below w.heap.size w w' := by
  unfold code
  by_cases h : n = 8 ∨ n = 16 ∨ n = 32 ∨ n = 64
  · rw [if_pos h]
    by_cases ho : o = 1 ∨ o = 2
    · rw [if_pos ho]; exact asked_ok n o w h ho
    · rw [if_neg ho]; exact asked_order n o w h ho
  · rw [if_neg h]; exact asked_no n o w h
theorem code_zero (bits o : Int) (h : code bits o = 0) : (∃ n : Nat, bits = 8 ∧ n = 1 ∨ bits = 16 ∧ n = 2 ∨ bits = 32 ∧ n = 4 ∨ bits = 64 ∧ n = 8) ∧ (o = 1 ∨ o = 2) := by
  unfold code at h
  split at h
  · rename_i h1
    split at h
    · rename_i h2
      refine ⟨?_, h2⟩
      rcases h1 with rfl | rfl | rfl | rfl
      · exact ⟨1, by omega⟩
      · exact ⟨2, by omega⟩
      · exact ⟨4, by omega⟩
      · exact ⟨8, by omega⟩
    · cases h
  · cases h
/-- A number's bytes, in all cases. -/
def bytesOf (x : BitVec 64) (bits o : Int) : List (BitVec 8) := if code bits o = 0 then wordBytes x (bits / 8).toNat o else []
theorem bytes_bad (x bits o : Int) (w : World) (h : code bits o ≠ 0) : Calls Try.prog 21 #[.int .u64 x, .int .i64 bits, .int .i64 o] w fun e w' => e = .returned (.tuple #[.slice none 0 0, .int .i64 (code bits o)]) ∧ w = w' := by
  obtain ⟨c, hc⟩ : ∃ c, code bits o = c := ⟨_, rfl⟩
  rw [hc] at h ⊢
  have h1 : (c != 0) = true := by simp [h]
  have HC := Lib.hid hc
  clear hc
  go_enter Try.func21, Try.ntmps21
  go_wp2_with (go_at_call 33; refine (way_any bits o _).mono ?_; rintro e w' ⟨rfl, rfl⟩; rw [HC.out])
  go_ret2
  exact ⟨rfl, rfl⟩
theorem bytes_gen (x : BitVec 64) (bits o : Int) (w : World) : Calls Try.prog 21 #[.int .u64 x.toNat, .int .i64 bits, .int .i64 o] w fun e w' =>
    ∃ A c, e = .returned (.tuple #[.slice A (bytesOf x bits o).length c, .int .i64 (code bits o)]) ∧ RdB w' A (bytesOf x bits o) ∧ Below w.heap.size w w' := by
  by_cases h : code bits o = 0
  · unfold bytesOf
    rw [h, if_pos rfl, length_wordBytes]
    obtain ⟨⟨n, hn⟩, ho⟩ := code_zero bits o h
    obtain rfl : (bits / 8).toNat = n := by omega
    refine (bytes_own x _ bits o w hn ho).mono ?_
    rintro e w' ⟨g, rfl, hr, hb⟩
    exact ⟨_, _, rfl, hr, hb⟩
  · unfold bytesOf
    rw [if_neg h]
    refine (bytes_bad x.toNat bits o w h).mono ?_
    rintro e w' ⟨rfl, rfl⟩
    exact ⟨none, 0, rfl, ⟨by simp, fun j hj => by simp at hj⟩, Below.refl _ _⟩
theorem rbytes_bad (x bits o : Int) (w : World) (h : code bits o ≠ 0) : Calls Try.prog 22 #[.int .u64 x, .int .i64 bits, .int .i64 o] w fun e w' => e = .returned (.tuple #[.slice none 0 0, .int .i64 (code bits o)]) ∧ Below w.heap.size w w' := by
  obtain ⟨c, hc⟩ : ∃ c, code bits o = c := ⟨_, rfl⟩
  rw [hc] at h ⊢
  have h1 : (c != 0) = true := by simp [h]
  have HC := Lib.hid hc
  clear hc
  go_enter Try.func22, Try.ntmps22
  go_wp2_with (go_at_call 35; refine (asked_any bits o _).mono ?_; rintro e w1 ⟨rfl, b1⟩; rw [HC.out])
  go_ret2
  exact ⟨rfl, b1⟩

theorem div_byte (x : Nat) (k : Nat) : x / 2 ^ (8 * k) / 256 = x / 2 ^ (8 * (k + 1)) := by
  rw [Nat.div_div_eq_div_mul]
  congr 1
  rw [show (256 : Nat) = 2 ^ 8 by decide, ← Nat.pow_add]; congr 1
theorem wordBytes_big (x : BitVec 64) (k : Nat) : byteAt x k :: wordBytes x k 1 = wordBytes x (k + 1) 1 := by
  apply List.ext_getElem
  · simp [wordBytes]
  · intro i h1 h2
    rcases i with _ | i
    · simp [wordBytes, which]
    · simp only [wordBytes, which, List.getElem_cons_succ, List.getElem_map, List.getElem_range, if_pos]
      congr 1
      omega
theorem wordBytes_little (x : BitVec 64) (k : Nat) : wordBytes x k 2 ++ [byteAt x k] = wordBytes x (k + 1) 2 := by
  apply List.ext_getElem
  · simp [wordBytes]
  · intro i h1 h2
    rw [List.getElem_append]
    simp only [wordBytes, which, List.getElem_map, List.getElem_range, List.length_map, List.length_range]
    split
    · simp
    · have : i = k := by simp [wordBytes] at h1; omega
      subst this; simp

set_option maxRecDepth 100000 in
set_option maxHeartbeats 4000000 in
theorem rbytes_little (x : BitVec 64) (n : Nat) (bits : Int) (w : World) (hn : bits = 8 ∧ n = 1 ∨ bits = 16 ∧ n = 2 ∨ bits = 32 ∧ n = 4 ∨ bits = 64 ∧ n = 8) :
    Calls Try.prog 22 #[.int .u64 x.toNat, .int .i64 bits, .int .i64 2] w fun e w' => ∃ A c, e = .returned (.tuple #[.slice A n c, .int .i64 0]) ∧ RdB w' A (wordBytes x n 2) ∧ Below w.heap.size w w' := by
  obtain ⟨i0, hi, hz0, hz1, hz2⟩ := info_parts info5
  have hq : bits.tdiv 8 = (n : Int) := by rcases hn with ⟨rfl, rfl⟩ | ⟨rfl, rfl⟩ | ⟨rfl, rfl⟩ | ⟨rfl, rfl⟩ <;> decide
  have hn8 : n ≤ 8 := by omega
  have hn1 : 1 ≤ n := by omega
  have hbits : bits = 8 ∨ bits = 16 ∨ bits = 32 ∨ bits = 64 := by omega
  have b0 : -9223372036854775808 ≤ bits := by omega
  have b1 : bits ≤ 64 := by omega
  have HB := Lib.hid hbits
  have hx := x.isLt
  clear hn hbits
  go_enter Try.func22, Try.ntmps22
  go_wp2_with (go_at_call 35; refine (asked_ok bits 2 _ HB.out (Or.inr rfl)).mono ?_; rintro e w1 ⟨rfl, b1⟩)
  go_loopw [0, 9, 10] (fun xv v i wr => ∃ k : Nat, k ≤ n ∧ i = .int .i64 k ∧ xv = .int .u64 ((x.toNat / 2 ^ (8 * k) : Nat) : Int) ∧ wr.ownsRow w.heap.size 5 1 v k (bytesV (wordBytes x k 2)) ∧ Below w.heap.size w wr) (fun _ _ i _ => n - (intOf i).toNat)
  case atStart => exact ⟨0, Nat.zero_le _, rfl, by simp, World.ownsRow_nil _ _ _ _, b1⟩
  case round =>
    obtain ⟨k, hk, rfl, rfl, hown, hbel⟩ := hrel
    by_cases hlt : k < n
    · have hX : x.toNat / 2 ^ (8 * k) < 18446744073709551616 := Nat.lt_of_le_of_lt (Nat.div_le_self _ _) hx
      have hnext := div_byte x.toNat k
      have hbyte := byte_nat x k
      obtain ⟨X, hX0⟩ : ∃ X, x.toNat / 2 ^ (8 * k) = X := ⟨_, rfl⟩
      rw [hX0] at hX hnext hbyte ⊢
      obtain ⟨c, hc⟩ : ∃ c, byteAt x k = c := ⟨_, rfl⟩
      rw [hc] at hbyte
      have hstep := wordBytes_little x k
      rw [hc] at hstep
      have hrem : (X : Int).tmod 256 = (c.toNat : Int) := by rw [Int.tmod_eq_emod_of_nonneg (by omega)]; omega
      have hc256 : (c.toNat : Int) % 256 = c.toNat := by have := c.isLt; omega
      have Hn := Lib.hid hnext
      have Hs := Lib.hid hstep
      have hc2 : (c.toNat : Int) < 256 := by omega
      clear hnext hstep hbyte hc hX0
      go_wp2_with (first | (at_builtin; go_loud (refine wpList_append_own _ rfl (.tmp 35) (.tmp 37) 33 rfl w.heap.size 5 i0 (.int .u8 0) 1 1 Try.underlying33 hi hz0 hz1 hz2 rfl (by decide) _ _ _ rfl (hown.alloc _) ⟨wr.heap.size, 0, none⟩ 1 1 [.int .u8 (c.toNat : Int)] rfl rfl (cell_one_new _ _ _) (oneInt _) (by unfold maxLen; omega) (by omega) (append_base hbel (Nat.le_refl _) _) ?_; intro v' w2 hown' hgrow _)) | fail)
      have hb2 : Below w.heap.size w w2 := (hbel.alloc hbel.size _).grown hgrow (by have := hbel.size; simp; omega) (own_base' hown)
      clear hgrow
      rw [bytesV_snoc, Hs.out] at hown'
      go_roundw
      case rel => exact ⟨k + 1, by omega, by go_num, by rw [← Hn.out]; go_num, hown', hb2⟩
      case measure => simp [intOf]; omega
    · obtain rfl : k = n := by omega
      obtain ⟨g, cap, hv⟩ := Joins.ownsRow_form hown (by omega)
      rw [hv] at hown
      subst hv
      go_wp2
      go_ret2
      exact ⟨_, _, rfl, RdB.own hown, hbel⟩
theorem own_one (w : World) (base : Nat) (hb : base ≤ w.heap.size) (e : TypeId) (v : Value) : (w.alloc (.cells #[v] e)).ownsRow base e 1 (.slice (some ⟨w.heap.size, 0, none⟩) 1 1) 1 [v] :=
  ⟨by simp, .inr ⟨w.heap.size, 1, #[v], rfl, hb, by show (w.heap.push _)[_]? = _; simp, Nat.le_refl _, by simp [maxLen], by simp, by simp⟩⟩
set_option maxRecDepth 100000 in
set_option maxHeartbeats 4000000 in
theorem rbytes_big (x : BitVec 64) (n : Nat) (bits : Int) (w : World) (hn : bits = 8 ∧ n = 1 ∨ bits = 16 ∧ n = 2 ∨ bits = 32 ∧ n = 4 ∨ bits = 64 ∧ n = 8) :
    Calls Try.prog 22 #[.int .u64 x.toNat, .int .i64 bits, .int .i64 1] w fun e w' => ∃ A c, e = .returned (.tuple #[.slice A n c, .int .i64 0]) ∧ RdB w' A (wordBytes x n 1) ∧ Below w.heap.size w w' := by
  obtain ⟨i0, hi, hz0, hz1, hz2⟩ := info_parts info5
  have hq : bits.tdiv 8 = (n : Int) := by rcases hn with ⟨rfl, rfl⟩ | ⟨rfl, rfl⟩ | ⟨rfl, rfl⟩ | ⟨rfl, rfl⟩ <;> decide
  have hn8 : n ≤ 8 := by omega
  have hn1 : 1 ≤ n := by omega
  have hbits : bits = 8 ∨ bits = 16 ∨ bits = 32 ∨ bits = 64 := by omega
  have b0 : -9223372036854775808 ≤ bits := by omega
  have b1 : bits ≤ 64 := by omega
  have HB := Lib.hid hbits
  have hx := x.isLt
  clear hn hbits
  go_enter Try.func22, Try.ntmps22
  go_wp2_with (go_at_call 35; refine (asked_ok bits 1 _ HB.out (Or.inl rfl)).mono ?_; rintro e w1 ⟨rfl, b1⟩)
  go_loopw [0, 9, 10] (fun xv v i wr => ∃ k : Nat, k ≤ n ∧ i = .int .i64 k ∧ xv = .int .u64 ((x.toNat / 2 ^ (8 * k) : Nat) : Int) ∧ wr.ownsRow w.heap.size 5 1 v k (bytesV (wordBytes x k 1)) ∧ Below w.heap.size w wr ∧ (k = 0 → v = .slice none 0 0)) (fun _ _ i _ => n - (intOf i).toNat)
  case atStart => exact ⟨0, Nat.zero_le _, rfl, by simp, World.ownsRow_nil _ _ _ _, b1, fun _ => rfl⟩
  case round =>
    obtain ⟨k, hk, rfl, rfl, hown, hbel, hnil⟩ := hrel
    by_cases hlt : k < n
    · have hX : x.toNat / 2 ^ (8 * k) < 18446744073709551616 := Nat.lt_of_le_of_lt (Nat.div_le_self _ _) hx
      have hnext := div_byte x.toNat k
      have hbyte := byte_nat x k
      obtain ⟨X, hX0⟩ : ∃ X, x.toNat / 2 ^ (8 * k) = X := ⟨_, rfl⟩
      rw [hX0] at hX hnext hbyte ⊢
      obtain ⟨c, hc⟩ : ∃ c, byteAt x k = c := ⟨_, rfl⟩
      rw [hc] at hbyte
      have hstep := wordBytes_big x k
      rw [hc] at hstep
      have hrem : (X : Int).tmod 256 = (c.toNat : Int) := by rw [Int.tmod_eq_emod_of_nonneg (by omega)]; omega
      have hc256 : (c.toNat : Int) % 256 = c.toNat := by have := c.isLt; omega
      have Hn := Lib.hid hnext
      have Hs := Lib.hid hstep
      have hc2 : (c.toNat : Int) < 256 := by omega
      clear hnext hstep hbyte hc hX0
      rcases Nat.eq_zero_or_pos k with hk0 | hk0
      · subst hk0
        obtain rfl := hnil rfl
        go_wp2_with (first | (at_builtin; go_loud (refine wpList_append_own_none rfl (.tmp 32) (.tmp 33) 33 rfl w.heap.size 5 i0 1 Try.underlying33 hi (.slice (some ⟨wr.heap.size, 0, none⟩) 1 1) 1 [.int .u8 (c.toNat : Int)] rfl (own_one wr w.heap.size hbel.size 5 (.int .u8 (c.toNat : Int))) rfl ?_)) | fail)
        have hown' := own_one wr w.heap.size hbel.size 5 (.int .u8 (c.toNat : Int))
        have hb2 : Below w.heap.size w (wr.alloc (.cells #[.int .u8 (c.toNat : Int)] 5)) := hbel.alloc hbel.size _
        have Hs2 : wordBytes x 1 1 = [c] := Hs.out.symm
        go_roundw
        case rel => exact ⟨1, by omega, by go_num, by rw [← Hn.out]; go_num, by rw [Hs2]; exact hown', hb2, fun h => absurd h (by omega)⟩
        case measure => simp [intOf]; omega
      · obtain ⟨g, cap, hv⟩ := Joins.ownsRow_form hown hk0
        rw [hv] at hown
        subst hv
        have hrd := RdB.own hown
        have hlen := length_wordBytes x k 1
        generalize wordBytes x k 1 = L at *
        go_wp2_with (first | (at_builtin; go_loud (refine wpList_append_own _ rfl (.tmp 32) (.tmp 33) 33 rfl w.heap.size 5 i0 (.int .u8 0) 1 1 Try.underlying33 hi hz0 hz1 hz2 rfl (by decide) _ _ _ rfl (own_one wr w.heap.size hbel.size 5 (.int .u8 (c.toNat : Int))) ⟨g, 0, none⟩ k cap (bytesV L) rfl (by simp [bytesV, hlen]) (bytesV_cells (RdB.alloc' hrd _)) (bytesV_one _) (by unfold maxLen; omega) (by omega) (append_base hbel (Nat.le_refl _) _) ?_; intro v' w2 hown' hgrow _)) | fail)
        have hb2 : Below w.heap.size w w2 := (hbel.alloc hbel.size _).grown hgrow (by have := hbel.size; simp; omega) (own_base' (own_one wr w.heap.size hbel.size 5 (.int .u8 (c.toNat : Int))))
        clear hgrow
        have e1 : [Value.int .u8 (c.toNat : Int)] ++ bytesV L = bytesV (c :: L) := by simp [bytesV]
        rw [e1, Hs.out, Nat.add_comm 1 k] at hown'
        go_roundw
        case rel => exact ⟨k + 1, by omega, by go_num, by rw [← Hn.out]; go_num, hown', hb2, fun h => absurd h (by omega)⟩
        case measure => simp [intOf]; omega
    · obtain rfl : k = n := by omega
      obtain ⟨g, cap, hv⟩ := Joins.ownsRow_form hown (by omega)
      rw [hv] at hown
      subst hv
      go_wp2
      go_ret2
      exact ⟨_, _, rfl, RdB.own hown, hbel⟩
end Go.Proofs.Ytecaiaobbjddeaa
