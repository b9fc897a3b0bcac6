import Derived.Test.YtjaakhjfpigdfaaF2
/-! The reference's key of a purpose. -/
namespace Go.Proofs.Ytjaakhjfpigdfaa
open Go.RowKit
set_option linter.unusedVariables false
set_option linter.unusedSimpArgs false
theorem one0 (n : Int) : ∀ u ∈ [Value.int .u8 n], u.oneCell' = true := by intro u hu; simp at hu; subst hu; rfl
set_option maxRecDepth 100000 in
set_option maxHeartbeats 4000000 in
theorem rderive_any (k : By) (kv : Value) (s : ByteArray) (x : BitVec 64) (w : World) (hk : EqN w k kv) (hkl : k.length ≤ 1000000) (hs : s.size ≤ 100000) : Calls Try.prog 49 #[kv, .string s, .int .u64 (x.toNat : Int)] w fun e w' => e = .returned (.agg (V8 (macL k (purB s x)))) ∧ Below w.heap.size w w' := by
  have hz32 := zeros32
  have hzs32 : (V8 (List.replicate 32 0)).size = 32 := by rw [V8_size]; rfl
  obtain ⟨Zr, hZr⟩ : ∃ Z, V8 (List.replicate 32 0) = Z := ⟨_, rfl⟩
  rw [hZr] at hz32 hzs32
  have HZ32 := Lib.hid hz32
  have z6 := Lib.hid (heap_new w (.cells Zr 25) w.heap.size rfl)
  have b6 := Lib.hid (below_alloc1 w (.cells Zr 25))
  have hk6 := hk.alloc (.cells Zr 25)
  obtain ⟨W1, hW1⟩ : ∃ W, w.alloc (.cells Zr 25) = W := ⟨_, rfl⟩
  rw [hW1] at z6 b6 hk6
  have HW1 := Lib.hid hW1
  have hcs := conv_str W1 s
  have ho4 := str_own W1 s hs
  have b4 := str_below W1 s
  have s4 := str_size W1 s
  obtain ⟨W4, hW4⟩ : ∃ W, strW W1 s = W := ⟨_, rfl⟩
  obtain ⟨cap, hcap⟩ : ∃ c, grownCap W1 s.size 0 5 = c := ⟨_, rfl⟩
  rw [hW4, hcap] at hcs
  rw [hW4, hcap] at ho4
  rw [hW4] at b4 s4
  have HO4 := Lib.hid ho4
  have B4 := Lib.hid b4
  have HK6 := Lib.hid hk6
  have HS := Lib.hid hs
  have HKL := Lib.hid hkl
  have HPZ := Lib.hid (show bytesV (strB s) ++ [Value.int .u8 0] = bytesV (purK s x 0) by rw [purK_zero]; simp [bytesV])
  have HPS := Lib.hid (fun j (h : j < 8) => show bytesV (purK s x j) ++ [Value.int .u8 ((byteAt x (7 - j)).toNat : Int)] = bytesV (purK s x (j + 1)) by rw [purK_succ s x j h]; simp [bytesV])
  have HPA := Lib.hid (purK_all s x)
  have HPL := Lib.hid (show (purB s x).length = s.size + 1 + 8 by rw [← purK_all, purK_len s x 8 (Nat.le_refl _)])
  have HB := Lib.hid (fun q => (byte_nat x q).symm)
  have hm := macL_len k (purB s x)
  obtain ⟨M, hM⟩ : ∃ M, macL k (purB s x) = M := ⟨_, rfl⟩
  rw [hM] at hm ⊢
  have HM := Lib.hid hM
  have HML := Lib.hid hm
  have hx64 := x.isLt
  obtain ⟨X, hX⟩ : ∃ X, x.toNat = X := ⟨_, rfl⟩
  rw [hX] at HB hx64 ⊢
  have HX := Lib.hid hX
  clear hz32 hZr hW1 hk6 hk hkl hW4 hcap ho4 b4 hs hM hm hX s4
  go_enter Try.func49, Try.ntmps49
  go_upto_region 1 with (fail)
  rw [← HZ32.out, HW1.out]
  clear HW1
  go_wp2_with (first | (at_builtin; refine wpList_append_ownT rfl (.tmp 10) (.tmp 11) rfl W1.heap.size _ s.size _ rfl (HO4.out.alloc _) ⟨W4.heap.size, 0, none⟩ 1 1 [.int .u8 0] rfl rfl (cell_one_at _ _ _ _ rfl) (one0 _) (by have := HS.out; omega) (by have := B4.out.size; rw [size_alloc]; omega) ?_; intro v5 w5 hown5 hgrow5; rw [HPZ.out] at hown5; have HO5 := Lib.hid hown5; have HG5 := Lib.hid hgrow5; clear hown5 hgrow5) | fail)
  have hb5 : Below W1.heap.size W1 w5 := (B4.out.alloc B4.out.size _).grown HG5.out (by have := B4.out.size; rw [size_alloc]; omega) (fun k hk => (HO4.out.lt k hk).1)
  have HB5 := Lib.hid hb5
  clear hb5
  go_loopg [7, 8] 8 (fun gk lv iv wr => ∃ j : Nat, gk = 8 - j ∧ j ≤ 8 ∧ iv = .int .i64 (7 - (j : Int)) ∧ OwnT wr W1.heap.size lv (s.size + 1 + j) (bytesV (purK s x j)) ∧ Below W1.heap.size W1 wr)
  case atStart => exact ⟨0, rfl, by omega, rfl, HO5.out, HB5.out⟩
  case round =>
    obtain ⟨j, rfl, hj, rfl, hown, hbel⟩ := hrel
    have hsr := hbel.size
    by_cases hlt : j < 8
    · obtain ⟨q, hq⟩ : ∃ q : Nat, q + j = 7 := ⟨7 - j, by omega⟩
      have hiv : (7 : Int) - (j : Int) = (q : Int) := by omega
      have hq7 : q ≤ 7 := by omega
      have h8 : ((8 : Int) * (q : Int)).toNat = 8 * q := by omega
      have hby : (X : Int) / 2 ^ (8 * q) % 256 = ((byteAt x q).toNat : Int) := by
        rw [← HB.out q]
        push_cast
        rfl
      have HPS1 := Lib.hid (HPS.out j hlt)
      rw [show 7 - j = q by omega] at HPS1
      obtain ⟨y, hy⟩ : ∃ y, byteAt x q = y := ⟨_, rfl⟩
      rw [hy] at hby HPS1
      have HO := Lib.hid hown
      have HBL := Lib.hid hbel
      have HQ := Lib.hid hq
      have HJ := Lib.hid hlt
      rw [hiv]
      clear hiv hy hown hbel hq hlt hj
      go_wp2_with (first | (at_builtin; refine wpList_append_ownT rfl (.tmp 17) (.tmp 24) rfl W1.heap.size _ (s.size + 1 + j) _ rfl (HO.out.alloc _) ⟨wr.heap.size, 0, none⟩ 1 1 [.int .u8 (y.toNat : Int)] rfl rfl (cell_one_at _ _ _ _ rfl) (one0 _) (by have := HS.out; have := HJ.out; omega) (by rw [size_alloc]; omega) ?_; intro v6 w6 hown6 hgrow6; rw [HPS1.out] at hown6; have HO6 := Lib.hid hown6; have HB6 := Lib.hid ((HBL.out.alloc hsr _).grown hgrow6 (by rw [size_alloc]; omega) (fun k hk => (HO.out.lt k hk).1)); clear hown6 hgrow6) | fail)
      go_roundg (8 - (j + 1))
      case measure => have := HJ.out; omega
      case rel =>
        refine ⟨j + 1, rfl, HJ.out, ?_, HO6.out, HB6.out⟩
        refine congrArg (Value.int IntKind.i64) ?_
        have := HQ.out
        push_cast
        omega
    · obtain rfl : j = 8 := by omega
      rw [HPA.out] at hown
      have hfo := hown
      rw [← HPL.out] at hfo
      obtain ⟨g9, c9, rfl, hE9⟩ := hfo.eqn (by rw [HPL.out]; have := HS.out; omega)
      have hb9 := hbel
      have hk9 := HK6.out.below hb9
      have S := Lib.hid (rmof_any k kv (purB s x) _ wr hk9 HKL.out hE9 (by rw [HPL.out]; have := HS.out; omega))
      rw [HM.out] at S
      have Z7 := Lib.hid (keepH hb9 z6.out)
      have B7 := Lib.hid (b6.out.trans (hb9.mono b6.out.size))
      have HSZ := Lib.hid (show (Try.prog.info? 25).map (·.size) = some (V8 M).size by rw [V8_size, HML.out]; kernel_rfl)
      have HZZ := Lib.hid (show Zr.size = (V8 M).size by rw [V8_size, HML.out, hzs32])
      clear hown hfo hE9 hb9 hk9 hbel
      go_wp2_with fail
      refine S.out.mono ?_
      rintro e w7 ⟨rfl, hb7⟩
      have Z8 := Lib.hid (keepH hb7 Z7.out)
      have B8 := Lib.hid (B7.out.trans (hb7.mono B7.out.size))
      clear Z7 B7 hb7 S
      go_wp2_with (first | ((with_reducible show wpList _ _ _ (⟨none, .store 25 (.tmp 6) (.tmp 28), _, _, _, _⟩ :: _) _ _); refine wpList_store_row rfl 25 (.tmp 6) (.tmp 28) rfl w.heap.size (V8 M) rfl rfl 25 _ Z8.out HSZ.out HZZ.out (V8_one _) ?_) | fail)
      have gz := setRow_heap w7 w.heap.size _ (V8 M) _ _ Z8.out
      have hrv := run_loadVar_row (P := Try.prog) (w7.setRow w.heap.size (V8 M)) w.heap.size 25 25 (V8 M) (0, 0) _ gz Try.underlying25 rfl HSZ.out
      exact bodyPost_ret (v := .agg (V8 M)) (by simp [results, Try.results49, asAddr, hrv, Act.put]) rfl ⟨rfl, below_setRow _ _ B8.out (Nat.le_refl _)⟩
end Go.Proofs.Ytjaakhjfpigdfaa
