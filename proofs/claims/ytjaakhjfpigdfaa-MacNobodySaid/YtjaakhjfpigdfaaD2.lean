import Derived.Test.YtjaakhjfpigdfaaCA
/-! A MAC that nobody began: MacNobody. -/
namespace Go.Proofs.Ytjaakhjfpigdfaa
open Go.RowKit
set_option linter.unusedVariables false
set_option linter.unusedSimpArgs false
def NoMac (w : World) (p : Value) : Prop := p = .pointer none ∨ ∃ g, p = .pointer (some ⟨g, 0, none⟩) ∧ w.cell? ⟨g, 64, none⟩ = some (.pointer none)
theorem NoMac.below {w w' : World} {p : Value} (h : NoMac w p) (hb : Below w.heap.size w w') : NoMac w' p := by
  rcases h with h | ⟨g, e, hc⟩
  · exact .inl h
  · exact .inr ⟨g, e, (hb.cell (World.block_lt_of_cell? _ _ hc)).trans hc⟩
set_option maxRecDepth 100000 in
theorem mwrite_no (p bv : Value) (w : World) (h : NoMac w p) : Calls Try.prog 56 #[p, bv] w fun e w' => e = .returned (.int .i64 4) ∧ w = w' := by
  rcases h with rfl | ⟨g, rfl, hc⟩
  · go_enter Try.func56, Try.ntmps56
    go_wp2
    go_ret
    exact ⟨rfl, rfl⟩
  · go_enter Try.func56, Try.ntmps56
    go_wp2
    go_ret
    exact ⟨rfl, rfl⟩
set_option maxRecDepth 100000 in
set_option maxHeartbeats 4000000 in
theorem mmsum_no (p : Value) (w : World) (h : NoMac w p) : Calls Try.prog 55 #[p] w fun e w' => e = .returned (.tuple #[.agg (V8 (List.replicate 32 0)), .int .i64 4]) ∧ Below w.heap.size w w' := by
  have hz := zeros32
  have hone := V8_one (List.replicate 32 0)
  obtain ⟨Zr, hZr⟩ : ∃ Z, V8 (List.replicate 32 0) = Z := ⟨_, rfl⟩
  rw [hZr] at hz hone
  have hZ := Lib.hid hz
  clear hz
  have z1 : (w.alloc (.cells Zr 25)).heap[w.heap.size]? = some (.cells Zr 25 (0, 0)) := heap_new _ _ _ rfl
  have b1 : Below w.heap.size w (w.alloc (.cells Zr 25)) := below_alloc1 _ _
  have h1 := h.below b1
  obtain ⟨W1, hW1⟩ : ∃ W, w.alloc (.cells Zr 25) = W := ⟨_, rfl⟩
  rw [hW1] at z1 b1 h1
  have HSZ := Lib.hid (show (Try.prog.info? 25).map (·.size) = some Zr.size by rw [← hZr]; kernel_rfl)
  have HZr := Lib.hid hZr
  have HW1 := Lib.hid hW1
  have Z1 := Lib.hid z1
  have B1 := Lib.hid b1
  clear hW1 z1 b1 h hZr
  rcases h1 with rfl | ⟨g, rfl, hc⟩
  all_goals
    go_enter Try.func55, Try.ntmps55
    go_upto_region 1 with (fail)
    rw [← hZ.out, HW1.out]
    clear HW1
    go_wp2_with (first | ((with_reducible show wpList _ _ _ (⟨none, .store 25 (.tmp 2) (.tmp 15), _, _, _, _⟩ :: _) _ _); rw [← hZ.out]; refine wpList_store_row rfl 25 (.tmp 2) (.tmp 15) rfl w.heap.size Zr rfl rfl 25 _ Z1.out HSZ.out rfl hone ?_) | fail)
    have gz := setRow_heap W1 w.heap.size _ Zr _ _ Z1.out
    have hrv := run_loadVar_row (P := Try.prog) (W1.setRow w.heap.size Zr) w.heap.size 25 25 Zr (0, 0) _ gz Try.underlying25 rfl HSZ.out
    have BB : Below w.heap.size w (W1.setRow w.heap.size Zr) := below_setRow _ _ B1.out (Nat.le_refl _)
    exact bodyPost_ret (v := .tuple #[.agg Zr, .int .i64 4]) (by simp [results, Try.results55, asAddr, hrv, Act.put]) rfl ⟨by rw [HZr.out], BB⟩
set_option maxRecDepth 100000 in
set_option maxHeartbeats 4000000 in
theorem macNobody_true (b : By) (A : Option Addr) (c : Nat) (w : World) (hr : RdB w A b) (hc : b.length ≤ c) (hy : b.length * 1 ≤ 140737488351232) : Calls Try.prog 15 #[.slice A b.length c] w fun e w' => e = .returned (.bool true) ∧ Below w.heap.size w w' := by
  clear hr hc hy
  obtain ⟨bv, hbv⟩ : ∃ v, Value.slice A b.length c = v := ⟨_, rfl⟩
  rw [hbv]
  clear hbv
  have hz := zeros32
  have hone := V8_one (List.replicate 32 0)
  have heq := fun w => eq_dig 25 Try.underlying25 (List.replicate 32 0) (List.replicate 32 0) rfl rfl w
  rw [show (List.replicate 32 (0 : BitVec 8) == List.replicate 32 0) = true by simp] at heq
  obtain ⟨Zr, hZr⟩ : ∃ Z, V8 (List.replicate 32 0) = Z := ⟨_, rfl⟩
  rw [hZr] at hz hone heq
  have HSZ := Lib.hid (show (Try.prog.info? 25).map (·.size) = some Zr.size by rw [← hZr]; kernel_rfl)
  have HZr := Lib.hid hZr
  have HZ := Lib.hid hz
  have heq2 := (fun Y (h : Zr = Y) => (show ∀ w, (Op.equalIn 10000 25 (.agg Zr) (.agg Y)).run Try.prog w = .ok true w by subst h; exact heq)) _ hz
  clear hZr hz heq
  go_enter Try.func15, Try.ntmps15
  go_wp2
  have hc64 : Try.zeroCells76[64]? = some (.pointer none) := by kernel_rfl
  generalize hW2 : (World.alloc (World.alloc _ _) _) = W2
  have b2 : Below w.heap.size w W2 := by rw [← hW2]; exact ((Below.refl _ _).alloc (Nat.le_refl _) _).alloc (by simp) _
  have q0 : W2.cell? ⟨w.heap.size + 1, 0, none⟩ = some (.pointer none) := by rw [← hW2, show w.heap.size + 1 = (World.alloc w (.cells Try.zeroCells76 76)).heap.size by simp]; exact cell_new _ _ _ _ 0 _ rfl
  have q1 : W2.cell? ⟨w.heap.size + 1, 1, none⟩ = some (.pointer (some ⟨w.heap.size, 0, none⟩)) := by rw [← hW2, show w.heap.size + 1 = (World.alloc w (.cells Try.zeroCells76 76)).heap.size by simp]; exact cell_new _ _ _ _ 1 _ rfl
  have q2 : W2.cell? ⟨w.heap.size, 64, none⟩ = some (.pointer none) := by rw [← hW2]; exact cell_old _ (cell_new _ _ _ _ 64 _ hc64)
  have HP := Lib.hid (show ∀ i, i < 2 → ∃ p, W2.cell? ⟨w.heap.size + 1, i, none⟩ = some (.pointer p) ∧ NoMac W2 (.pointer p) from fun i hi => by
    have hc : i = 0 ∨ i = 1 := by omega
    rcases hc with rfl | rfl
    · exact ⟨_, q0, .inl rfl⟩
    · exact ⟨_, q1, .inr ⟨_, rfl, q2⟩⟩)
  have B2 := Lib.hid b2
  clear hW2 b2 q0 q1 q2 hc64
  go_loopg [13] 2 (fun gk v13 wr => ∃ i : Nat, i ≤ 2 ∧ gk = 2 - i ∧ v13 = .int .i64 (i : Int) ∧ Below W2.heap.size W2 wr)
  case atStart => exact ⟨0, by omega, rfl, rfl, Below.refl _ _⟩
  case round =>
    obtain ⟨i, hi, rfl, rfl, hb⟩ := hrel
    by_cases hlt : i < 2
    · obtain ⟨p, hp, hn⟩ := HP.out i hlt
      have q : wr.cell? ⟨w.heap.size + 1, i, none⟩ = some (.pointer p) := (hb.cell (World.block_lt_of_cell? _ _ hp)).trans hp
      have hn1 := hn.below hb
      have S1 := Lib.hid (mmsum_no _ wr hn1)
      rw [HZr.out] at S1
      have HN := Lib.hid hn1
      have HB := Lib.hid hb
      clear hb hn hn1 hp
      go_wp2_with fail
      refine S1.out.mono ?_
      rintro e w3 ⟨rfl, hb3⟩
      have HN3 := Lib.hid (HN.out.below hb3)
      have HB3 := Lib.hid (HB.out.trans (hb3.mono HB.out.size))
      clear S1 HN HB hb3 q
      go_upto_region 6 with (first | ((with_reducible show wpList _ _ _ (⟨none, .store 25 (.tmp 6) (.tmp 20), _, _, _, _⟩ :: _) _ _); rw [← HZ.out]; refine wpList_store_row rfl 25 (.tmp 6) (.tmp 20) rfl w3.heap.size Zr rfl rfl 25 _ (heap_new _ _ _ rfl) HSZ.out rfl hone ?_) | fail)
      generalize hW4 : (World.setRow _ _ _) = W4
      have b4 : Below w3.heap.size w3 W4 := by rw [← hW4]; exact below_setRow _ _ ((Below.refl _ _).alloc (Nat.le_refl _) _) (Nat.le_refl _)
      have z4 : W4.heap[w3.heap.size]? = some (.cells Zr 25 (0, 0)) := by rw [← hW4]; exact setRow_heap _ _ _ _ _ _ (heap_new _ _ _ rfl)
      have HN4 := HN3.out.below b4
      have S3 := Lib.hid (mwrite_no _ bv W4 HN4)
      have HB4 := Lib.hid (HB3.out.trans (b4.mono HB3.out.size))
      have Z4 := Lib.hid z4
      clear HN3 HB3 hW4 b4 z4 HN4
      go_wp2_with (first | (go_at_call 56; refine S3.out.mono ?_; rintro e w5 ⟨rfl, rfl⟩) | ((with_reducible show wpList _ _ _ (⟨some 31, .load 25 (.tmp 6), _, _, _, _⟩ :: _) _ _); refine Go.BigFrame.wpList_want (by kernel_rfl) fun K hK => wp_load_row 25 (.tmp 6) rfl w3.heap.size rfl 25 Zr _ Z4.out Try.underlying25 rfl HSZ.out (hK _ _ ?_); simp only [Act.put, List.setIfInBounds_toArray, List.set_cons_zero, List.set_cons_succ]; clear hK) | fail)
      go_roundg (2 - (i + 1))
      case measure => omega
      case rel => exact ⟨i + 1, by omega, rfl, by go_num, HB4.out⟩
    · have AL := Lib.hid (awake4_any wr)
      have HB := Lib.hid (B2.out.trans (hb.mono B2.out.size))
      clear hb
      go_wp2_with (first | (go_at_call 44; refine AL.out.mono ?_; rintro e w8 ⟨rfl, hb8⟩) | fail)
      go_ret
      exact ⟨rfl, HB.out.trans (hb8.mono HB.out.size)⟩
end Go.Proofs.Ytjaakhjfpigdfaa
