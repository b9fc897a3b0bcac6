import Derived.Test.YtjaakhjfpigdfaaC6
/-! Of; cut. -/
namespace Go.Proofs.Ytjaakhjfpigdfaa
open Go.RowKit
set_option linter.unusedVariables false
set_option linter.unusedSimpArgs false
/-- The MAC of one row. -/
theorem msum1_any (k : By) (kv : Value) (b : By) (bv : Value) (w : World) (hk : EqN w k kv) (hkl : k.length ≤ 1000000) (hb : EqN w b bv) (hbl : b.length ≤ 1000000) : Calls Try.prog 46 #[kv, .slice (some ⟨w.heap.size, 0, none⟩) 1 1] (w.alloc (.cells #[bv] 35)) fun e w' => e = .returned (.agg (V8 (macL k b))) ∧ Below w.heap.size w w' := by
  have h := msum_any k kv [b] ⟨w.heap.size, 0, none⟩ 1 _ (hk.alloc _) hkl (RdN.new1 w b _ 35 (0, 0) _ rfl hb) (by simp) (by simp) (by simpa using hbl)
  rw [show [b].flatten = b by simp] at h
  refine h.mono ?_
  rintro e w' ⟨rfl, hb⟩
  exact ⟨rfl, (below_alloc1 _ _).trans (hb.mono (by simp))⟩
theorem rmsum1_any (k : By) (kv : Value) (b : By) (bv : Value) (w : World) (hk : EqN w k kv) (hkl : k.length ≤ 1000000) (hb : EqN w b bv) (hbl : b.length ≤ 1000000) : Calls Try.prog 47 #[kv, .slice (some ⟨w.heap.size, 0, none⟩) 1 1] (w.alloc (.cells #[bv] 35)) fun e w' => e = .returned (.agg (V8 (macL k b))) ∧ Below w.heap.size w w' := by
  have h := rmsum_any k kv [b] ⟨w.heap.size, 0, none⟩ 1 _ (hk.alloc _) hkl (RdN.new1 w b _ 35 (0, 0) _ rfl hb) (by simp) (by simp) (by simpa using hbl)
  rw [show [b].flatten = b by simp] at h
  refine h.mono ?_
  rintro e w' ⟨rfl, hb⟩
  exact ⟨rfl, (below_alloc1 _ _).trans (hb.mono (by simp))⟩
theorem EqN.form {w : World} {p : By} {v : Value} (h : EqN w p v) : ∃ a n c, v = .slice a n c := by obtain ⟨a, c, e, _⟩ := h; exact ⟨a, _, c, e⟩
set_option maxRecDepth 100000 in
set_option maxHeartbeats 4000000 in
theorem rmof_any (k : By) (kv : Value) (b : By) (bv : Value) (w : World) (hk : EqN w k kv) (hkl : k.length ≤ 1000000) (hb : EqN w b bv) (hbl : b.length ≤ 1000000) : Calls Try.prog 58 #[kv, bv] w fun e w' => e = .returned (.agg (V8 (macL k b))) ∧ Below w.heap.size w w' := by
  have hz32 := zeros32
  have hzs32 : (V8 (List.replicate 32 0)).size = 32 := by rw [V8_size]; rfl
  obtain ⟨Zr, hZr⟩ : ∃ Z, V8 (List.replicate 32 0) = Z := ⟨_, rfl⟩
  rw [hZr] at hz32 hzs32
  have HZ32 := Lib.hid hz32
  have z4 := Lib.hid (heap_new w (.cells Zr 25) w.heap.size rfl)
  have b4 := Lib.hid (below_alloc1 w (.cells Zr 25))
  have hk4 := hk.alloc (.cells Zr 25)
  have hb4 := hb.alloc (.cells Zr 25)
  obtain ⟨W4, hW4⟩ : ∃ W, w.alloc (.cells Zr 25) = W := ⟨_, rfl⟩
  rw [hW4] at z4 b4 hk4 hb4
  have S := Lib.hid (rmsum1_any k kv b bv W4 hk4 hkl hb4 hbl)
  have hml := macL_len k b
  obtain ⟨Z, hZ2⟩ : ∃ Z, macL k b = Z := ⟨_, rfl⟩
  rw [hZ2] at hml S ⊢
  have HSZ := Lib.hid (show (Try.prog.info? 25).map (·.size) = some (V8 Z).size by rw [V8_size, hml]; kernel_rfl)
  have HZZ := Lib.hid (show Zr.size = (V8 Z).size by rw [V8_size, hml, hzs32])
  obtain ⟨a1, n1, c1, rfl⟩ := hb.form
  have HW4 := Lib.hid hW4
  clear hz32 hzs32 hZr hW4 hk4 hb4 hk hb hml hZ2
  go_enter Try.func58, Try.ntmps58
  go_upto_region 1 with (fail)
  rw [← HZ32.out, HW4.out]
  clear HW4
  go_wp2_with fail
  refine S.out.mono ?_
  rintro e w5 ⟨rfl, hb5⟩
  have Z5 := Lib.hid (keepH hb5 z4.out)
  have B5 := Lib.hid (b4.out.trans (hb5.mono b4.out.size))
  clear z4 b4 hb5 S
  go_wp2_with (first | ((with_reducible show wpList _ _ _ (⟨none, .store 25 (.tmp 4) (.tmp 8), _, _, _, _⟩ :: _) _ _); refine wpList_store_row rfl 25 (.tmp 4) (.tmp 8) rfl w.heap.size (V8 Z) rfl rfl 25 _ Z5.out HSZ.out HZZ.out (V8_one _) ?_) | fail)
  have gz := setRow_heap w5 w.heap.size _ (V8 Z) _ _ Z5.out
  have hrv := run_loadVar_row (P := Try.prog) (w5.setRow w.heap.size (V8 Z)) w.heap.size 25 25 (V8 Z) (0, 0) _ gz Try.underlying25 rfl HSZ.out
  exact bodyPost_ret (v := .agg (V8 Z)) (by simp [results, Try.results58, asAddr, hrv, Act.put]) rfl ⟨rfl, below_setRow _ _ B5.out (Nat.le_refl _)⟩
set_option maxRecDepth 100000 in
theorem run_take (A : Option Addr) (n c m : Nat) (hm : m ≤ c) (w : World) : (Instr.sliceAt 35 (.slice A n c) none (some (.int .i64 (m : Int))) none).run Try.prog w = .ok (.slice A m c) w := by
  have h2 : (m : Int) ≤ (c : Int) := by omega
  rw [run_sliceAt_slice w 35 _ _ _ _ Try.underlying35]
  rw [run_slice_h w 35 A n c Try.underlying35 .i64 m (by omega) h2]
  simp [go_sem, Try.underlying35]
set_option maxRecDepth 100000 in
theorem cut4_any (b : By) (bv : Value) (w : World) (hb : EqN w b bv) : Calls Try.prog 45 #[bv] w fun e w' => ∃ v, e = .returned v ∧ EqN w (b.take 2000) v ∧ w = w' := by
  have HE := Lib.hid hb
  obtain ⟨A, c, rfl, hc, hr, hn⟩ := hb
  have hr1 := hr.1
  obtain ⟨n, hn2⟩ : ∃ n, b.length = n := ⟨_, rfl⟩
  by_cases h : 2000 < n
  · have hT := Lib.hid (HE.out.take 2000 (by omega))
    rw [hn2] at hc hr1 ⊢
    have hI : (2000 : Int) < (n : Int) := by omega
    have hcI : (2000 : Int) ≤ (c : Int) := by omega
    clear HE hr hn hn2
    go_enter Try.func45, Try.ntmps45
    go_wp2
    go_ret
    exact ⟨_, rfl, hT.out, rfl⟩
  · have hT := Lib.hid (show EqN w (b.take 2000) (.slice A n c) by rw [List.take_of_length_le (by omega), ← hn2]; exact HE.out)
    rw [hn2] at hc hr1 ⊢
    have hI : ¬ (2000 : Int) < (n : Int) := by omega
    clear HE hr hn hn2
    go_enter Try.func45, Try.ntmps45
    go_wp2
    go_ret
    exact ⟨_, rfl, hT.out, rfl⟩
end Go.Proofs.Ytjaakhjfpigdfaa
