import Derived.Test.YtjaakhjfpigdfaaH
import Derived.Lib.AppendZeros
/-! Pad. -/
namespace Go.Proofs.Ytjaakhjfpigdfaa
open Go.RowKit
set_option linter.unusedVariables false
set_option linter.unusedSimpArgs false
theorem shl8_val (X : Nat) (h : X < 18446744073709551616) : ∀ j, shl8 X j = X * 256 ^ j % 18446744073709551616
  | 0 => by rw [shl8, Nat.pow_zero, Nat.mul_one, Nat.mod_eq_of_lt h]
  | j + 1 => by
    rw [shl8, shl8_val X h j, Nat.pow_succ, ← Nat.mul_assoc, Nat.mod_mul_mod]
theorem tail_word (X : Nat) (h : X < 18446744073709551616) : tailB X 8 = wordBytes (BitVec.ofNat 64 X) 8 1 := by
  apply List.ext_getElem
  · rw [tailB_len, length_wordBytes]
  · intro j h1 h2
    have hj : j < 8 := by rw [tailB_len] at h1; exact h1
    apply BitVec.eq_of_toNat_eq
    simp only [tailB, wordBytes, List.getElem_map, List.getElem_range]
    rw [byte_nat, BitVec.toNat_ofNat, BitVec.toNat_ofNat, shl8_val X h, Nat.mod_eq_of_lt (show X < 2 ^ 64 from h)]
    have hw : which 8 1 j = 7 - j := by unfold which; split <;> omega
    rw [hw]
    have hc : j = 0 ∨ j = 1 ∨ j = 2 ∨ j = 3 ∨ j = 4 ∨ j = 5 ∨ j = 6 ∨ j = 7 := by omega
    rcases hc with rfl | rfl | rfl | rfl | rfl | rfl | rfl | rfl <;> simp <;> omega
theorem own_128 (w : World) : (w.alloc (.cells #[.int .u8 128] 5)).ownsRow w.heap.size 5 1 (.slice (some ⟨w.heap.size, 0, none⟩) 1 1) 1 (bytesV (headB 0)) := ⟨rfl, .inr ⟨_, 1, _, rfl, Nat.le_refl _, heap_alloc_new _ _, Nat.le_refl _, by decide, rfl, rfl⟩⟩
theorem cells_bytes (w : World) (l : By) (g : Nat) (hg : g = w.heap.size) : ∀ j u, (bytesV l)[j]? = some u → (w.alloc (.cells (l.map fun b => Value.int .u8 (b.toNat : Int)).toArray 5)).cell? ((⟨g, 0, none⟩ : Addr).add j) = some u := by
  intro j u h
  subst hg
  rw [add_zero_off]
  exact cell_new w _ 5 (0, 0) j u (by simpa [bytesV] using h)
theorem one_bytes (l : By) : ∀ u ∈ bytesV l, u.oneCell' = true := by
  intro u hu
  simp only [bytesV, List.mem_map] at hu
  obtain ⟨b, _, rfl⟩ := hu
  rfl
theorem len_bytes (l : By) : (bytesV l).length = l.length := by simp [bytesV]
theorem app_bytes (p q : By) : bytesV p ++ bytesV q = bytesV (p ++ q) := by simp [bytesV]
theorem zeroCells_eq (k : Nat) : Builtin.zeroCells #[Value.int .u8 0] k = (List.replicate k (Value.int .u8 0)).toArray := by
  apply Array.ext'
  simp only [Builtin.zeroCells]
  apply List.ext_getElem
  · simp
  · intro i h1 h2
    simp [Nat.mod_one]
theorem own_zeros (w : World) (base k : Nat) (hk : k < 64) (hb : base ≤ w.heap.size) : (w.drew.alloc (.cells (#[Value.int .u8 128] ++ (Builtin.zeroCells #[Value.int .u8 0] k ++ Builtin.zeroCells #[Value.int .u8 0] (grownCap w (1 + k) 1 5 - (1 + k)))) 5)).ownsRow base 5 1 (.slice (some ⟨w.heap.size, 0, none⟩) (1 + k) (grownCap w (1 + k) 1 5)) (1 + k) (bytesV (headB k)) := by
  have hge := grownCap_ge w (1 + k) 1 5
  refine ⟨by rw [len_bytes, headB_len]; omega, .inr ⟨w.heap.size, _, _, rfl, hb, heap_alloc_new w.drew _, hge, grownCap_le_maxLen w (1 + k) 1 5 (by unfold maxLen; omega), ?_, ?_⟩⟩
  · rw [zeroCells_eq, zeroCells_eq]
    simp
    omega
  · rw [zeroCells_eq, zeroCells_eq, Nat.mul_one]
    simp [bytesV, headB, Nat.add_comm 1 k]
set_option maxRecDepth 100000 in
set_option maxHeartbeats 4000000 in
theorem pad_any (n : Nat) (hn : n < 18446744073709551616) (w : World) : Calls Try.prog 30 #[.int .u64 n] w fun e w' => ∃ v, e = .returned v ∧ w'.ownsRow w.heap.size 5 1 v (padL n).length (bytesV (padL n)) ∧ Below w.heap.size w w' := by
  obtain ⟨i0, hi, hz0, hz1, hz2⟩ := info_parts info5
  have hzv : (119 - (n : Int) % 64) % 64 = ((zN n : Nat) : Int) := by unfold zN; omega
  have hz : zN n < 64 := Nat.mod_lt _ (by decide)
  have hXl : n * 8 % 18446744073709551616 < 18446744073709551616 := Nat.mod_lt _ (by decide)
  have hTW := Lib.hid (tail_word _ hXl)
  have hxn : ((BitVec.ofNat 64 (n * 8 % 18446744073709551616)).toNat : Int) = (n : Int) * 8 % 18446744073709551616 := by
    rw [BitVec.toNat_ofNat, Nat.mod_eq_of_lt (show n * 8 % 18446744073709551616 < 2 ^ 64 from hXl)]; rfl
  obtain ⟨x, hx⟩ : ∃ x, BitVec.ofNat 64 (n * 8 % 18446744073709551616) = x := ⟨_, rfl⟩
  rw [hx] at hxn hTW
  have BY := Lib.hid (fun w => bytes_any x 8 64 1 w (Or.inr (Or.inr (Or.inr ⟨rfl, rfl⟩))) (Or.inl rfl))
  have hwm : IntKind.u64.wrap ((n : Int) * 8) = (x.toNat : Int) := by rw [IntKind.wrap_u64, hxn]
  have hmm := hxn.symm
  obtain ⟨z, hzz⟩ : ∃ z, zN n = z := ⟨_, rfl⟩
  have EP := Lib.hid (show padL n = headB z ++ wordBytes x 8 1 by unfold padL; rw [hTW.out, hzz])
  rw [hzz] at hzv hz
  clear hx hxn hzz hXl hTW
  rcases Nat.eq_zero_or_pos z with rfl | hpos
  · have hap := run_append_zeros0 (w.alloc (.cells #[.int .u8 128] 5)) 35 w.heap.size
    go_enter Try.func30, Try.ntmps30
    go_wp2_with (first | (go_at_call 80; refine (BY.out _).mono ?_; rintro e w' ⟨rfl, rfl⟩) | (at_builtin; refine wpList_append_own _ rfl (.tmp 20) (.tmp 21) 35 rfl w.heap.size 5 i0 (.int .u8 0) 1 1 Try.underlying35 hi hz0 hz1 hz2 rfl (by decide) _ 1 _ rfl ((own_128 w).alloc _) ⟨w.heap.size + 1, 0, none⟩ 8 8 (bytesV (wordBytes x 8 1)) rfl (by rw [len_bytes, length_wordBytes]) (cells_bytes _ _ _ (by simp)) (one_bytes _) (by decide) (by decide) (by simp; omega) ?_; intro v' w3 hown' hgrow _; have hb3 : Below w.heap.size w w3 := (((Below.refl _ _).alloc (Nat.le_refl _) _).alloc (by simp) _).grown hgrow (by simp; omega) (own_base' (own_128 w)); have HO3 := Lib.hid hown'; clear hown' hgrow) | fail)
    go_ret
    refine ⟨_, rfl, ?_, hb3⟩
    have ho := HO3.out
    rw [app_bytes, ← EP.out] at ho
    rw [EP.out, List.length_append, headB_len, length_wordBytes, ← EP.out]
    exact ho
  · have hap := run_append_zeros1 (w.alloc (.cells #[.int .u8 128] 5)) 35 w.heap.size z hpos hz (by
      have h := run_firstCells_some (P := Try.prog) (w.alloc (.cells #[.int .u8 128] 5)).drew 1 1 ⟨w.heap.size, 0, none⟩ 1 1 [.int .u8 128] rfl (cell_one_at w (.int .u8 128) 5 w.heap.size rfl)
      exact h)
    have ow := own_zeros (w.alloc (.cells #[.int .u8 128] 5)) w.heap.size z hz (by simp)
    have bw : Below w.heap.size w ((w.alloc (.cells #[.int .u8 128] 5)).drew.alloc (.cells (#[Value.int .u8 128] ++ (Builtin.zeroCells #[Value.int .u8 0] z ++ Builtin.zeroCells #[Value.int .u8 0] (grownCap (w.alloc (.cells #[.int .u8 128] 5)) (1 + z) 1 5 - (1 + z)))) 5)) := (((Below.refl _ _).alloc (Nat.le_refl _) _).drew).alloc (by simp [World.drew]) _
    obtain ⟨W, hW⟩ : ∃ W, ((w.alloc (.cells #[.int .u8 128] 5)).drew.alloc (.cells (#[Value.int .u8 128] ++ (Builtin.zeroCells #[Value.int .u8 0] z ++ Builtin.zeroCells #[Value.int .u8 0] (grownCap (w.alloc (.cells #[.int .u8 128] 5)) (1 + z) 1 5 - (1 + z)))) 5)) = W := ⟨_, rfl⟩
    rw [hW] at hap ow bw
    rw [show (w.alloc (.cells #[.int .u8 128] 5)).heap.size = w.heap.size + 1 from size_alloc _ _] at hap ow
    obtain ⟨c, hc⟩ : ∃ c, grownCap (w.alloc (.cells #[.int .u8 128] 5)) (1 + z) 1 5 = c := ⟨_, rfl⟩
    rw [hc] at hap ow
    replace hap := Lib.hid hap
    have OW := Lib.hid ow
    have hsW := bw.size
    clear ow hW hc
    go_enter Try.func30, Try.ntmps30
    go_wp2_with (first | (at_builtin; (refine Lib.wpList_append_run _ rfl (.tmp 11) (.tmp 12) 35 33 rfl (.slice (some ⟨w.heap.size, 0, none⟩) 1 1) (.int .u64 (z : Int)) rfl (by show Value.int .u64 _ = _; first | (congr 1; done) | (congr 1; omega)) _ _ hap.out ?_)) | (go_at_call 80; refine (BY.out _).mono ?_; rintro e w' ⟨rfl, rfl⟩) | (at_builtin; refine wpList_append_own _ rfl (.tmp 20) (.tmp 21) 35 rfl w.heap.size 5 i0 (.int .u8 0) 1 1 Try.underlying35 hi hz0 hz1 hz2 rfl (by decide) _ (1 + z) _ rfl (OW.out.alloc _) ⟨W.heap.size, 0, none⟩ 8 8 (bytesV (wordBytes x 8 1)) rfl (by rw [len_bytes, length_wordBytes]) (cells_bytes _ _ _ rfl) (one_bytes _) (by unfold maxLen; omega) (by omega) (by simp; omega) ?_; intro v' w3 hown' hgrow _; have hb3 : Below w.heap.size w w3 := (bw.alloc hsW _).grown hgrow (by simp; omega) (own_base' OW.out); have HO3 := Lib.hid hown'; clear hown' hgrow) | fail)
    go_ret
    refine ⟨_, rfl, ?_, hb3⟩
    have ho := HO3.out
    rw [app_bytes, ← EP.out] at ho
    rw [EP.out, List.length_append, headB_len, length_wordBytes, ← EP.out, Nat.add_comm z 1]
    exact ho
end Go.Proofs.Ytjaakhjfpigdfaa
