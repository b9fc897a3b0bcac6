import Derived.Test.YtjaakhjfpigdfaaE
/-! The document's Bytes. -/
namespace Go.Proofs.Ytjaakhjfpigdfaa
open Go.RowKit
set_option linter.unusedVariables false
set_option linter.unusedSimpArgs false
abbrev By := List (BitVec 8)
def V8 (l : By) : Array Value := (l.map fun (x : BitVec 8) => Value.int .u8 (x.toNat : Int)).toArray
theorem V8_size (l : By) : (V8 l).size = l.length := by simp [V8]
theorem V8_set (l : By) (k : Nat) (x : BitVec 8) : (V8 l).setIfInBounds k (.int .u8 (x.toNat : Int)) = V8 (l.set k x) := by
  unfold V8; rw [List.setIfInBounds_toArray, List.map_set]
theorem V8_at (l : By) (k : Nat) (h : k < l.length) : (V8 l)[k]? = some (.int .u8 ((l.getD k 0).toNat : Int)) := by
  simp [V8, List.getD_eq_getElem?_getD, List.getElem?_eq_getElem h]
theorem V8_one (l : By) : (V8 l).all (·.oneCell') = true := by
  rw [Array.all_eq_true]
  intro i hi
  simp [V8, Value.oneCell']
def dByte (s : List W32) (i : Nat) : BitVec 8 := BitVec.ofNat 8 ((s.getD (i / 4) 0).toNat / 256 ^ (3 - i % 4))
def fillD (s : List W32) : Nat → By
  | 0 => List.replicate 32 0
  | i + 1 => (fillD s i).set i (dByte s i)
theorem fillD_len (s : List W32) : ∀ i, (fillD s i).length = 32
  | 0 => by simp [fillD]
  | i + 1 => by rw [fillD, List.length_set, fillD_len s i]
/-- A state's 32 bytes. -/
def digL (s : List W32) : By := fillD s 32
theorem zeros32 : V8 (List.replicate 32 0) = (#[.int .u8 0, .int .u8 0, .int .u8 0, .int .u8 0, .int .u8 0, .int .u8 0, .int .u8 0, .int .u8 0, .int .u8 0, .int .u8 0, .int .u8 0, .int .u8 0, .int .u8 0, .int .u8 0, .int .u8 0, .int .u8 0, .int .u8 0, .int .u8 0, .int .u8 0, .int .u8 0, .int .u8 0, .int .u8 0, .int .u8 0, .int .u8 0, .int .u8 0, .int .u8 0, .int .u8 0, .int .u8 0, .int .u8 0, .int .u8 0, .int .u8 0, .int .u8 0] : Array Value) := by kernel_rfl
theorem div_step (X d : Nat) : (X / 256 ^ d) / 256 = X / 256 ^ (d + 1) := by rw [Nat.div_div_eq_div_mul, Nat.pow_succ]
set_option maxRecDepth 100000 in
set_option maxHeartbeats 4000000 in
theorem rbytes_any (s : List W32) (hs : s.length = 8) (w : World) : Calls Try.prog 35 #[.agg (U s)] w fun e w' => e = .returned (.agg (V8 (digL s))) ∧ Below w.heap.size w w' := by
  have b1 : Below w.heap.size w (((w.alloc (.cells (U s) 31)).alloc (.cells (V8 (List.replicate 32 0)) 24)).alloc (.cells (V8 (List.replicate 32 0)) 24)) := (((Below.refl _ _).alloc (Nat.le_refl _) _).alloc (by simp) _).alloc (by simp; omega) _
  have h0 := heap_old (.cells (V8 (List.replicate 32 0)) 24) trivial (heap_old (.cells (V8 (List.replicate 32 0)) 24) trivial (heap_new w (.cells (U s) 31) w.heap.size rfl))
  have h1 := heap_old (.cells (V8 (List.replicate 32 0)) 24) trivial (heap_new (w.alloc (.cells (U s) 31)) (.cells (V8 (List.replicate 32 0)) 24) (w.heap.size + 1) (by simp))
  have h2 := heap_new ((w.alloc (.cells (U s) 31)).alloc (.cells (V8 (List.replicate 32 0)) 24)) (.cells (V8 (List.replicate 32 0)) 24) (w.heap.size + 2) (by simp)
  have HZ := Lib.hid zeros32
  obtain ⟨W, hW⟩ : ∃ W, ((w.alloc (.cells (U s) 31)).alloc (.cells (V8 (List.replicate 32 0)) 24)).alloc (.cells (V8 (List.replicate 32 0)) 24) = W := ⟨_, rfl⟩
  rw [hW] at b1 h0 h1 h2
  have HW := Lib.hid hW
  have H0 := Lib.hid h0
  have H1 := Lib.hid h1
  have H2 := Lib.hid h2
  clear h0 h1 h2 hW
  go_enter Try.func35, Try.ntmps35
  go_wp2
  rw [← HZ.out, HW.out]
  clear HZ HW
  go_loopg [4] 32 (fun gk iv wr => ∃ i : Nat, gk = 32 - i ∧ i ≤ 32 ∧ iv = .int .i64 (i : Int) ∧ wr.heap[w.heap.size]? = some (.cells (U s) 31) ∧ wr.heap[w.heap.size + 1]? = some (.cells (V8 (List.replicate 32 0)) 24) ∧ wr.heap[w.heap.size + 2]? = some (.cells (V8 (fillD s i)) 24) ∧ Below w.heap.size w wr)
  case atStart => exact ⟨0, rfl, by omega, rfl, H0.out, H1.out, H2.out, b1⟩
  case round =>
    obtain ⟨i, rfl, hi, rfl, g0, g1, g2, hbel⟩ := hrel
    have hsr := hbel.size
    have lt2 : w.heap.size + 2 < wr.heap.size := (Array.getElem?_eq_some_iff.1 g2).1
    by_cases hlt : i < 32
    · have q0 : wr.cell? ⟨w.heap.size, i / 4, none⟩ = some (.int .u32 ((s.getD (i / 4) 0).toNat : Int)) := by rw [Joins.cell_of_block g0]; exact U_at s _ (by omega)
      have sq : (i : Int).tdiv 4 = ((i / 4 : Nat) : Int) := by rw [Int.tdiv_eq_ediv_of_nonneg (by omega)]; omega
      have sr : (i : Int).tmod 4 = ((i % 4 : Nat) : Int) := by rw [Int.tmod_eq_emod_of_nonneg (by omega)]; omega
      have hq : ((i / 4 : Nat) : Int) < 8 := by omega
      obtain ⟨X, hX⟩ : ∃ X : W32, s.getD (i / 4) 0 = X := ⟨_, rfl⟩
      rw [hX] at q0
      have hXl := X.isLt
      have G0 := Lib.hid g0
      have G1 := Lib.hid g1
      have G2 := Lib.hid g2
      clear g0 g1 g2
      go_upto_region 7 with (fail)
      have hdb : ((X.toNat / 256 ^ (3 - i % 4) : Nat) : Int) % 256 = ((dByte s i).toNat : Int) := by
        unfold dByte
        rw [hX, BitVec.toNat_ofNat]
        rfl
      have HDB := Lib.hid hdb
      clear sq sr hX hdb
      obtain ⟨wo, hwo⟩ : ∃ wo, wo = wr := ⟨_, rfl⟩
      subst hwo
      go_loopg [5, 6] (3 - i % 4) (fun gk xv kv wr' => ∃ k : Nat, gk = 3 - k ∧ i % 4 ≤ k ∧ k ≤ 3 ∧ kv = .int .i64 (k : Int) ∧ xv = .int .u32 ((X.toNat / 256 ^ (k - i % 4) : Nat) : Int) ∧ wr' = wo)
      case atStart => exact ⟨i % 4, rfl, Nat.le_refl _, by omega, by congr 1, by rw [Nat.sub_self, Nat.pow_zero, Nat.div_one], rfl⟩
      case round =>
        obtain ⟨k, rfl, hk1, hk2, rfl, rfl, rfl⟩ := hrel
        by_cases hk : k < 3
        · have hd := div_step X.toNat (k - i % 4)
          rw [show k - i % 4 + 1 = k + 1 - i % 4 by omega] at hd
          obtain ⟨Y, hY⟩ : ∃ Y, X.toNat / 256 ^ (k - i % 4) = Y := ⟨_, rfl⟩
          have hYl : Y < 4294967296 := by rw [← hY]; exact Nat.lt_of_le_of_lt (Nat.div_le_self _ _) (by simpa using hXl)
          rw [hY] at hd ⊢
          have HD := Lib.hid hd
          clear hd hY
          go_wp2
          go_roundg (3 - (k + 1))
          case measure => omega
          case rel => exact ⟨k + 1, rfl, by omega, by omega, by go_num, by rw [← HD.out]; simp, by first | trivial | rfl⟩
        · obtain rfl : k = 3 := by omega
          obtain ⟨Y, hY⟩ : ∃ Y, X.toNat / 256 ^ (3 - i % 4) = Y := ⟨_, rfl⟩
          have hYl : Y < 4294967296 := by rw [← hY]; exact Nat.lt_of_le_of_lt (Nat.div_le_self _ _) (by simpa using hXl)
          rw [hY] at HDB ⊢
          have q2 : wr.cell? ⟨w.heap.size + 2, i, none⟩ = some (.int .u8 (((fillD s i).getD i 0).toNat : Int)) := by rw [Joins.cell_of_block G2.out]; exact V8_at _ _ (by rw [fillD_len]; exact hlt)
          have f2 := fr_of G2.out i
          clear hY
          have HS := Lib.hid (heap_setCell G2.out i (.int .u8 ((dByte s i).toNat : Int)))
          have HO1 := Lib.hid (heap_set_other (g := w.heap.size + 2) (i := i) (u := .int .u8 ((dByte s i).toNat : Int)) G1.out (by omega))
          have HO0 := Lib.hid (heap_set_other (g := w.heap.size + 2) (i := i) (u := .int .u8 ((dByte s i).toNat : Int)) G0.out (by omega))
          have hdb := HDB.out
          go_wp2
          go_roundg (32 - (i + 1))
          case measure => omega
          case rel => exact ⟨i + 1, rfl, by omega, by go_num, HO0.out, HO1.out, by have h := HS.out; rw [V8_set] at h; exact h, hbel.setCell (by simp; omega) _⟩
    · obtain rfl : i = 32 := by omega
      have hLl := fillD_len s 32
      obtain ⟨L, hL⟩ : ∃ L, digL s = L := ⟨_, rfl⟩
      have g2' : wr.heap[w.heap.size + 2]? = some (.cells (V8 L) 24) := by rw [← hL]; exact g2
      have hl2 : L.length = 32 := by rw [← hL]; exact hLl
      have HLS := Lib.hid hL
      have HG1 := Lib.hid g1
      have HG2 := Lib.hid g2'
      have HSZ := Lib.hid (show (Try.prog.info? 24).map (·.size) = some (V8 L).size by rw [V8_size, hl2]; kernel_rfl)
      have HZL := Lib.hid (show (V8 (List.replicate 32 0)).size = (V8 L).size by rw [V8_size, V8_size, hl2]; simp)
      clear g0 g1 g2 g2' hLl hL
      go_upto_region 11 with (fail)
      refine wp_region_list ?_
      refine wpList_load_row rfl 24 (.tmp 3) rfl (w.heap.size + 1 + 1) rfl 24 (V8 L) _ HG2.out Try.underlying24 rfl HSZ.out ?_
      refine wpList_store_row rfl 24 (.tmp 2) (.tmp 28) rfl (w.heap.size + 1) (V8 L) rfl rfl 24 _ HG1.out HSZ.out HZL.out (V8_one L) ?_
      refine wpList_nil ?_
      obtain ⟨Wz, hWz⟩ : ∃ Wz, wr.setRow (w.heap.size + 1) (V8 L) = Wz := ⟨_, rfl⟩
      have gz : Wz.heap[w.heap.size + 1]? = some (.cells (V8 L) 24 (0, 0)) := by rw [← hWz]; exact setRow_heap _ _ _ _ _ _ HG1.out
      have bz : Below w.heap.size w Wz := by rw [← hWz]; exact below_setRow _ _ hbel (by omega)
      rw [hWz]
      have HRV := Lib.hid (run_loadVar_row (P := Try.prog) Wz (w.heap.size + 1) 24 24 (V8 L) (0, 0) _ gz Try.underlying24 rfl HSZ.out)
      clear hWz gz
      try simp only [Act.put, List.setIfInBounds_toArray, List.set_cons_zero, List.set_cons_succ]
      go_wp2
      have hrv := HRV.out
      exact bodyPost_ret (v := .agg (V8 L)) (by simp [results, Try.results35, asAddr, hrv]) rfl ⟨by rw [HLS.out], bz⟩
end Go.Proofs.Ytjaakhjfpigdfaa
