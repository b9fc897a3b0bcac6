import Derived.Test.YtjaakhjfpigdfaaF
/-! The document's Pad. -/
namespace Go.Proofs.Ytjaakhjfpigdfaa
open Go.RowKit
set_option linter.unusedVariables false
set_option linter.unusedSimpArgs false
def zN (n : Nat) : Nat := (119 - n % 64) % 64
def shl8 (X : Nat) : Nat → Nat
  | 0 => X
  | j + 1 => shl8 X j * 256 % 18446744073709551616
theorem shl8_lt (X : Nat) (h : X < 18446744073709551616) : ∀ j, shl8 X j < 18446744073709551616
  | 0 => h
  | j + 1 => Nat.mod_lt _ (by decide)
def tailB (X k : Nat) : By := (List.range k).map fun j => BitVec.ofNat 8 (shl8 X j / 72057594037927936)
theorem tailB_succ (X k : Nat) : tailB X (k + 1) = tailB X k ++ [BitVec.ofNat 8 (shl8 X k / 72057594037927936)] := by simp [tailB, List.range_succ]
theorem tailB_len (X k : Nat) : (tailB X k).length = k := by simp [tailB]
def headB (k : Nat) : By := 128#8 :: List.replicate k 0#8
theorem headB_len (k : Nat) : (headB k).length = k + 1 := by simp [headB]
theorem headB_succ (k : Nat) : headB (k + 1) = headB k ++ [0#8] := by simp [headB, List.replicate_succ']
/-- The padding of so many bytes. -/
def padL (n : Nat) : By := headB (zN n) ++ tailB (n * 8 % 18446744073709551616) 8
theorem oneB (x : Int) : ∀ u ∈ [Value.int .u8 x], u.oneCell' = true := by intro u hu; simp at hu; subst hu; rfl
theorem cell_one_at (w : World) (x : Value) (t : TypeId) (a : Nat) (ha : a = w.heap.size) : ∀ j u, [x][j]? = some u → (w.alloc (.cells #[x] t)).cell? ((⟨a, 0, none⟩ : Addr).add j) = some u := by subst ha; exact cell_one_new w x t
theorem bytesV_snoc (p : By) (x : BitVec 8) : bytesV p ++ [.int .u8 (x.toNat : Int)] = bytesV (p ++ [x]) := by simp [bytesV]
set_option maxRecDepth 100000 in
set_option maxHeartbeats 4000000 in
theorem rpad_any (n : Nat) (hn : n < 18446744073709551616) (w : World) : Calls Try.prog 31 #[.int .u64 n] w fun e w' => ∃ v, e = .returned v ∧ w'.ownsRow w.heap.size 5 1 v (padL n).length (bytesV (padL n)) ∧ Below w.heap.size w w' := by
  obtain ⟨i0, hi, hz0, hz1, hz2⟩ := info_parts info5
  have b0 : Below w.heap.size w (w.alloc (.cells #[.int .u8 128] 5)) := (Below.refl _ _).alloc (Nat.le_refl _) _
  have o0 : (w.alloc (.cells #[.int .u8 128] 5)).ownsRow w.heap.size 5 1 (.slice (some ⟨w.heap.size, 0, none⟩) 1 1) 1 (bytesV (headB 0)) := ⟨rfl, .inr ⟨_, 1, _, rfl, Nat.le_refl _, heap_alloc_new _ _, Nat.le_refl _, by decide, rfl, rfl⟩⟩
  have O0 := Lib.hid o0
  clear o0
  have hz : zN n < 64 := Nat.mod_lt _ (by decide)
  go_enter Try.func31, Try.ntmps31
  go_wp2
  go_loopg [3] (zN n) (fun gk lv wr => ∃ k : Nat, gk = zN n - k ∧ k ≤ zN n ∧ wr.ownsRow w.heap.size 5 1 lv (k + 1) (bytesV (headB k)) ∧ Below w.heap.size w wr)
  case atStart => exact ⟨0, rfl, Nat.zero_le _, O0.out, b0⟩
  case round =>
    obtain ⟨k, rfl, hk, hown, hbel⟩ := hrel
    have hsr := hbel.size
    obtain ⟨g, c, rfl⟩ := Joins.ownsRow_form hown (by omega)
    have HO := Lib.hid hown
    clear hown
    by_cases hlt : k < zN n
    · have hne : ((n : Int) % 64 + ((k : Int) + 1) + 8) % 64 ≠ 0 := by unfold zN at hlt hk; omega
      have hb : (((n : Int) % 64 + ((k : Int) + 1) + 8) % 64 != 0) = true := by simpa using hne
      clear hne
      go_wp2_with (first | (at_builtin; go_loud (refine wpList_append_own _ rfl (.tmp 16) (.tmp 17) 35 rfl w.heap.size 5 i0 (.int .u8 0) 1 1 Try.underlying35 hi hz0 hz1 hz2 rfl (by decide) _ (k + 1) _ rfl (HO.out.alloc _) ⟨wr.heap.size, 0, none⟩ 1 1 [.int .u8 0] rfl rfl (cell_one_at _ _ _ _ rfl) (oneB _) (by unfold maxLen; omega) (by omega) (by simp; omega) ?_; intro v' w3 hown' hgrow _; have hb3 : Below w.heap.size w w3 := (hbel.alloc hsr _).grown hgrow (by simp; omega) (own_base' HO.out); have HO3 := Lib.hid hown'; clear hown' hgrow)) | fail)
      go_roundg (zN n - (k + 1))
      case measure => omega
      case rel => exact ⟨k + 1, rfl, by omega, by have ho := HO3.out; rw [show (Value.int IntKind.u8 0) = Value.int IntKind.u8 ((0#8).toNat : Int) from rfl, bytesV_snoc, ← headB_succ] at ho; exact ho, hb3⟩
    · have ek : k = zN n := by omega
      have heq : ((n : Int) % 64 + ((k : Int) + 1) + 8) % 64 = 0 := by unfold zN at ek; omega
      have hb : (((n : Int) % 64 + ((k : Int) + 1) + 8) % 64 != 0) = false := by simpa using heq
      have EK := Lib.hid ek
      have hk63 : k < 64 := by omega
      obtain ⟨X, hX⟩ : ∃ X, n * 8 % 18446744073709551616 = X := ⟨_, rfl⟩
      have hXl : X < 18446744073709551616 := by rw [← hX]; exact Nat.mod_lt _ (by decide)
      have hwm : IntKind.u64.wrap ((n : Int) * 8) = (X : Int) := by rw [IntKind.wrap_u64, ← hX]; rfl
      have HX := Lib.hid hX
      clear hX heq ek hlt hk
      go_upto_region 5 with (fail)
      have hmm : (n : Int) * 8 % 18446744073709551616 = (X : Int) := by rw [← HX.out]; rfl
      try rw [hmm]
      clear hb hwm hmm
      go_wp2
      go_loopg [3, 4, 5] 8 (fun gk lv xv jv wr => ∃ j : Nat, gk = 8 - j ∧ j ≤ 8 ∧ jv = .int .i64 (j : Int) ∧ xv = .int .u64 ((shl8 X j : Nat) : Int) ∧ wr.ownsRow w.heap.size 5 1 lv (k + 1 + j) (bytesV (headB k ++ tailB X j)) ∧ Below w.heap.size w wr)
      case atStart => exact ⟨0, rfl, by omega, rfl, rfl, by simpa [tailB] using HO.out, hbel⟩
      case round =>
        obtain ⟨j, rfl, hj, rfl, rfl, hown, hbel⟩ := hrel
        have hsr := hbel.size
        obtain ⟨g, c, rfl⟩ := Joins.ownsRow_form hown (by omega)
        have HO := Lib.hid hown
        clear hown
        by_cases hlt : j < 8
        · have hYl := shl8_lt X hXl j
          have hwm2 : IntKind.u64.wrap (((shl8 X j : Nat) : Int) * 256) = ((shl8 X (j + 1) : Nat) : Int) := by rw [IntKind.wrap_u64, shl8]; rfl
          have hmm2 : ((shl8 X j : Nat) : Int) * 256 % 18446744073709551616 = ((shl8 X (j + 1) : Nat) : Int) := by rw [shl8]; rfl
          obtain ⟨x, hx⟩ : ∃ x : BitVec 8, BitVec.ofNat 8 (shl8 X j / 72057594037927936) = x := ⟨_, rfl⟩
          have hxv : ((shl8 X j : Nat) : Int) / 72057594037927936 = (x.toNat : Int) := by
            rw [← hx, BitVec.toNat_ofNat]; omega
          have HT := Lib.hid (show tailB X (j + 1) = tailB X j ++ [x] by rw [tailB_succ, hx])
          obtain ⟨Y, hY⟩ : ∃ Y, shl8 X j = Y := ⟨_, rfl⟩
          obtain ⟨Y2, hY2⟩ : ∃ Y, shl8 X (j + 1) = Y := ⟨_, rfl⟩
          rw [hY] at hYl hwm2 hmm2 hxv ⊢
          rw [hY2] at hwm2 hmm2
          have HY2 := Lib.hid hY2
          have hx8 := x.isLt
          clear hx hY hY2
          go_wp2_with (first | (at_builtin; go_loud (refine wpList_append_own _ rfl (.tmp 25) (.tmp 29) 35 rfl w.heap.size 5 i0 (.int .u8 0) 1 1 Try.underlying35 hi hz0 hz1 hz2 rfl (by decide) _ (k + 1 + j) _ rfl (HO.out.alloc _) ⟨wr.heap.size, 0, none⟩ 1 1 [.int .u8 (x.toNat : Int)] rfl rfl (cell_one_at _ _ _ _ rfl) (oneB _) (by unfold maxLen; omega) (by omega) (by simp; omega) ?_; intro v' w3 hown' hgrow _; have hb3 : Below w.heap.size w w3 := (hbel.alloc hsr _).grown hgrow (by simp; omega) (own_base' HO.out); have HO3 := Lib.hid hown'; clear hown' hgrow)) | fail)
          clear hxv hwm2 hmm2
          go_roundg (8 - (j + 1))
          case measure => omega
          case rel =>
            have ho := HO3.out
            rw [bytesV_snoc, List.append_assoc, ← HT.out] at ho
            exact ⟨j + 1, rfl, by omega, by go_num, by rw [HY2.out], ho, hb3⟩
        · obtain rfl : j = 8 := by omega
          go_wp2
          go_ret
          refine ⟨_, rfl, ?_, hbel⟩
          have ho := HO.out
          unfold padL
          rw [HX.out, ← EK.out, List.length_append, headB_len, tailB_len]
          exact ho
end Go.Proofs.Ytjaakhjfpigdfaa
