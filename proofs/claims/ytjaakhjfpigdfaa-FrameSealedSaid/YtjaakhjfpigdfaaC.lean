import Derived.Test.YtjaakhjfpigdfaaB
/-! Start, constants. -/
namespace Go.Proofs.Ytjaakhjfpigdfaa
open Go.RowKit
set_option linter.unusedVariables false
set_option linter.unusedSimpArgs false
def kL : List W32 := [1116352408#32, 1899447441#32, 3049323471#32, 3921009573#32, 961987163#32, 1508970993#32, 2453635748#32, 2870763221#32, 3624381080#32, 310598401#32, 607225278#32, 1426881987#32, 1925078388#32, 2162078206#32, 2614888103#32, 3248222580#32, 3835390401#32, 4022224774#32, 264347078#32, 604807628#32, 770255983#32, 1249150122#32, 1555081692#32, 1996064986#32, 2554220882#32, 2821834349#32, 2952996808#32, 3210313671#32, 3336571891#32, 3584528711#32, 113926993#32, 338241895#32, 666307205#32, 773529912#32, 1294757372#32, 1396182291#32, 1695183700#32, 1986661051#32, 2177026350#32, 2456956037#32, 2730485921#32, 2820302411#32, 3259730800#32, 3345764771#32, 3516065817#32, 3600352804#32, 4094571909#32, 275423344#32, 430227734#32, 506948616#32, 659060556#32, 883997877#32, 958139571#32, 1322822218#32, 1537002063#32, 1747873779#32, 1955562222#32, 2024104815#32, 2227730452#32, 2361852424#32, 2428436474#32, 2756734187#32, 3204031479#32, 3329325298#32]
def startL : List W32 := [1779033703#32, 3144134277#32, 1013904242#32, 2773480762#32, 1359893119#32, 2600822924#32, 528734635#32, 1541459225#32]
theorem kL_val : U kL = (#[.int .u32 1116352408, .int .u32 1899447441, .int .u32 3049323471, .int .u32 3921009573, .int .u32 961987163, .int .u32 1508970993, .int .u32 2453635748, .int .u32 2870763221, .int .u32 3624381080, .int .u32 310598401, .int .u32 607225278, .int .u32 1426881987, .int .u32 1925078388, .int .u32 2162078206, .int .u32 2614888103, .int .u32 3248222580, .int .u32 3835390401, .int .u32 4022224774, .int .u32 264347078, .int .u32 604807628, .int .u32 770255983, .int .u32 1249150122, .int .u32 1555081692, .int .u32 1996064986, .int .u32 2554220882, .int .u32 2821834349, .int .u32 2952996808, .int .u32 3210313671, .int .u32 3336571891, .int .u32 3584528711, .int .u32 113926993, .int .u32 338241895, .int .u32 666307205, .int .u32 773529912, .int .u32 1294757372, .int .u32 1396182291, .int .u32 1695183700, .int .u32 1986661051, .int .u32 2177026350, .int .u32 2456956037, .int .u32 2730485921, .int .u32 2820302411, .int .u32 3259730800, .int .u32 3345764771, .int .u32 3516065817, .int .u32 3600352804, .int .u32 4094571909, .int .u32 275423344, .int .u32 430227734, .int .u32 506948616, .int .u32 659060556, .int .u32 883997877, .int .u32 958139571, .int .u32 1322822218, .int .u32 1537002063, .int .u32 1747873779, .int .u32 1955562222, .int .u32 2024104815, .int .u32 2227730452, .int .u32 2361852424, .int .u32 2428436474, .int .u32 2756734187, .int .u32 3204031479, .int .u32 3329325298] : Array Value) := by kernel_rfl
theorem startL_val : U startL = (#[.int .u32 1779033703, .int .u32 3144134277, .int .u32 1013904242, .int .u32 2773480762, .int .u32 1359893119, .int .u32 2600822924, .int .u32 528734635, .int .u32 1541459225] : Array Value) := by kernel_rfl
theorem kL_len : kL.length = 64 := by kernel_rfl
theorem startL_len : startL.length = 8 := by kernel_rfl

set_option maxRecDepth 100000 in
set_option maxHeartbeats 4000000 in
theorem start_any (w : World) : Calls Try.prog 32 #[] w fun e w' => e = .returned (.agg (U startL)) ∧ w.alloc (.cells (U startL) 31) = w' := by
  have HV := Lib.hid startL_val
  have hrv := run_loadVar_row (P := Try.prog) (w.alloc (.cells (U startL) 31)) w.heap.size 31 31 (U startL) (0, 0) _ (heap_new _ _ _ rfl) Try.underlying31 rfl (by rw [U_size, startL_len]; kernel_rfl)
  have HRV := Lib.hid hrv
  clear hrv
  go_enter Try.func32, Try.ntmps32
  go_wp2
  rw [← HV.out]
  have hrv := HRV.out
  exact bodyPost_ret (v := .agg (U startL)) (by simp [results, Try.results32, asAddr, hrv]) rfl ⟨rfl, rfl⟩

set_option maxRecDepth 100000 in
set_option maxHeartbeats 4000000 in
theorem rstart_any (w : World) : Calls Try.prog 33 #[] w fun e w' => e = .returned (.agg (U startL)) ∧ w.alloc (.cells (U startL) 31) = w' := by
  have HV := Lib.hid startL_val
  have hrv := run_loadVar_row (P := Try.prog) (w.alloc (.cells (U startL) 31)) w.heap.size 31 31 (U startL) (0, 0) _ (heap_new _ _ _ rfl) Try.underlying31 rfl (by rw [U_size, startL_len]; kernel_rfl)
  have HRV := Lib.hid hrv
  clear hrv
  go_enter Try.func33, Try.ntmps33
  go_wp2
  rw [← HV.out]
  have hrv := HRV.out
  exact bodyPost_ret (v := .agg (U startL)) (by simp [results, Try.results33, asAddr, hrv]) rfl ⟨rfl, rfl⟩

set_option maxRecDepth 100000 in
set_option maxHeartbeats 400000 in
theorem constants_any (w : World) : Calls Try.prog 75 #[] w fun e w' => e = .returned (.agg (U kL)) ∧ Below w.heap.size w w' := by
  have hZ := Lib.hid zeros64
  have hsz : (Try.prog.info? 99).map (·.size) = some (U kL).size := by rw [U_size, kL_len]; kernel_rfl
  have HSZ := Lib.hid hsz
  clear hsz
  have b0 : Below w.heap.size w (w.alloc (.cells (U (List.replicate 64 0)) 99)) := (Below.refl _ _).alloc (Nat.le_refl _) _
  have h0 := Lib.hid (heap_new w (.cells (U (List.replicate 64 0)) 99) w.heap.size rfl)
  go_enter Try.func75, Try.ntmps75
  go_upto_region 1 with (fail)
  rw [← hZ.out]
  refine wp_region_list ?_
  refine wpList_build rfl 99 _ rfl (by kernel_rfl) ?_
  refine wpList_store_row rfl 99 (.tmp 0) (.tmp 1) rfl w.heap.size (U kL) rfl (by kernel_rfl) 99 _ h0.out HSZ.out (by rw [U_size, U_size, kL_len]; simp) (U_one kL) ?_
  refine wpList_nil ?_
  obtain ⟨Wz, hWz⟩ : ∃ Wz, (w.alloc (.cells (U (List.replicate 64 0)) 99)).setRow w.heap.size (U kL) = Wz := ⟨_, rfl⟩
  have gz : Wz.heap[w.heap.size]? = some (.cells (U kL) 99 (0, 0)) := by rw [← hWz]; exact setRow_heap _ _ _ _ _ _ h0.out
  have bz : Below w.heap.size w Wz := by rw [← hWz]; exact below_setRow _ _ b0 (Nat.le_refl _)
  rw [hWz]
  have hrv := run_loadVar_row (P := Try.prog) Wz w.heap.size 99 99 (U kL) (0, 0) _ gz Try.underlying99 rfl HSZ.out
  have HRV := Lib.hid hrv
  clear hWz hrv gz hZ h0
  generalize hva : Value.agg (Option.getD _ _) = va
  clear hva
  try simp only [Act.put, List.setIfInBounds_toArray, List.set_cons_zero, List.set_cons_succ]
  go_wp2
  have hrv := HRV.out
  exact bodyPost_ret (v := .agg (U kL)) (by simp [results, Try.results75, asAddr, hrv]) rfl ⟨rfl, bz⟩
set_option maxRecDepth 100000 in
set_option maxHeartbeats 400000 in
theorem rconstants_any (w : World) : Calls Try.prog 79 #[] w fun e w' => e = .returned (.agg (U kL)) ∧ Below w.heap.size w w' := by
  have hZ := Lib.hid zeros64
  have hsz : (Try.prog.info? 99).map (·.size) = some (U kL).size := by rw [U_size, kL_len]; kernel_rfl
  have HSZ := Lib.hid hsz
  clear hsz
  have b0 : Below w.heap.size w (w.alloc (.cells (U (List.replicate 64 0)) 99)) := (Below.refl _ _).alloc (Nat.le_refl _) _
  have h0 := Lib.hid (heap_new w (.cells (U (List.replicate 64 0)) 99) w.heap.size rfl)
  go_enter Try.func79, Try.ntmps79
  go_upto_region 1 with (fail)
  rw [← hZ.out]
  refine wp_region_list ?_
  refine wpList_build rfl 99 _ rfl (by kernel_rfl) ?_
  refine wpList_store_row rfl 99 (.tmp 0) (.tmp 1) rfl w.heap.size (U kL) rfl (by kernel_rfl) 99 _ h0.out HSZ.out (by rw [U_size, U_size, kL_len]; simp) (U_one kL) ?_
  refine wpList_nil ?_
  obtain ⟨Wz, hWz⟩ : ∃ Wz, (w.alloc (.cells (U (List.replicate 64 0)) 99)).setRow w.heap.size (U kL) = Wz := ⟨_, rfl⟩
  have gz : Wz.heap[w.heap.size]? = some (.cells (U kL) 99 (0, 0)) := by rw [← hWz]; exact setRow_heap _ _ _ _ _ _ h0.out
  have bz : Below w.heap.size w Wz := by rw [← hWz]; exact below_setRow _ _ b0 (Nat.le_refl _)
  rw [hWz]
  have hrv := run_loadVar_row (P := Try.prog) Wz w.heap.size 99 99 (U kL) (0, 0) _ gz Try.underlying99 rfl HSZ.out
  have HRV := Lib.hid hrv
  clear hWz hrv gz hZ h0
  generalize hva : Value.agg (Option.getD _ _) = va
  clear hva
  try simp only [Act.put, List.setIfInBounds_toArray, List.set_cons_zero, List.set_cons_succ]
  go_wp2
  have hrv := HRV.out
  exact bodyPost_ret (v := .agg (U kL)) (by simp [results, Try.results79, asAddr, hrv]) rfl ⟨rfl, bz⟩
end Go.Proofs.Ytjaakhjfpigdfaa
