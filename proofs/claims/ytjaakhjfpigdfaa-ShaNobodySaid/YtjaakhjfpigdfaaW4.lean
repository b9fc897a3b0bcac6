import Derived.Test.YtjaakhjfpigdfaaU9
/-! ShaNobody. -/
namespace Go.Proofs.Ytjaakhjfpigdfaa
open Go.RowKit
set_option linter.unusedVariables false
set_option linter.unusedSimpArgs false
set_option maxRecDepth 100000 in
set_option maxHeartbeats 4000000 in
theorem shaNobody_true (b : By) (A : Option Addr) (c : Nat) (w : World) (hr : RdB w A b) (hc : b.length ≤ c) (hy : b.length * 1 ≤ 140737488351232) : Calls Try.prog 9 #[.slice A b.length c] w fun e w' => e = .returned (.bool true) ∧ Below w.heap.size w w' := by
  clear hr hc hy
  obtain ⟨bv, hbv⟩ : ∃ v, Value.slice A b.length c = v := ⟨_, rfl⟩
  rw [hbv]
  clear hbv
  have hz := zeros32
  have hone := V8_one (List.replicate 32 0)
  have heq := fun w => eq_dig 25 Try.underlying25 (List.replicate 32 0) (List.replicate 32 0) rfl rfl w
  rw [show (List.replicate 32 (0 : BitVec 8) == List.replicate 32 0) = true by simp] at heq
  obtain ⟨Zr, hZr⟩ : ∃ Z, V8 (List.replicate 32 0) = Z := ⟨_, rfl⟩
  rw [hZr] at hz hone heq
  have HSZ := Lib.hid (show (Try.prog.info? 25).map (·.size) = some Zr.size by rw [← hZr]; kernel_rfl)
  have HZr := Lib.hid hZr
  have HZ := Lib.hid hz
  have heq2 := (fun Y (h : Zr = Y) => (show ∀ w, (Op.equalIn 10000 25 (.agg Zr) (.agg Y)).run Try.prog w = .ok true w by subst h; exact heq)) _ hz
  clear hZr hz heq
  go_enter Try.func9, Try.ntmps9
  go_wp2
  generalize hW2 : (World.alloc (World.alloc _ _) _) = W2
  have b2 : Below w.heap.size w W2 := by rw [← hW2]; exact ((Below.refl _ _).alloc (Nat.le_refl _) _).alloc (by simp) _
  have q0 : W2.cell? ⟨w.heap.size + 1, 0, none⟩ = some (.pointer none) := by rw [← hW2, show w.heap.size + 1 = (World.alloc w (.cells #[.int .u32 0, .int .u32 0, .int .u32 0, .int .u32 0, .int .u32 0, .int .u32 0, .int .u32 0, .int .u32 0, .slice none 0 0, .int .u64 0, .bool false] 60)).heap.size by simp]; exact cell_new _ _ _ _ 0 _ rfl
  have q1 : W2.cell? ⟨w.heap.size + 1, 1, none⟩ = some (.pointer (some ⟨w.heap.size, 0, none⟩)) := by rw [← hW2, show w.heap.size + 1 = (World.alloc w (.cells #[.int .u32 0, .int .u32 0, .int .u32 0, .int .u32 0, .int .u32 0, .int .u32 0, .int .u32 0, .int .u32 0, .slice none 0 0, .int .u64 0, .bool false] 60)).heap.size by simp]; exact cell_new _ _ _ _ 1 _ rfl
  have q2 : W2.cell? ⟨w.heap.size, 10, none⟩ = some (.bool false) := by rw [← hW2]; exact cell_old _ (cell_new _ _ _ _ 10 _ rfl)
  have HP := Lib.hid (show ∀ i, i < 2 → ∃ p, W2.cell? ⟨w.heap.size + 1, i, none⟩ = some (.pointer p) ∧ NoHash W2 (.pointer p) from fun i hi => by
    have hc : i = 0 ∨ i = 1 := by omega
    rcases hc with rfl | rfl
    · exact ⟨_, q0, NoHash.nil _⟩
    · exact ⟨_, q1, NoHash.un q2⟩)
  have B2 := Lib.hid b2
  clear hW2 b2 q0 q1 q2
  go_loopg [15] 2 (fun gk v15 wr => ∃ i : Nat, i ≤ 2 ∧ gk = 2 - i ∧ v15 = .int .i64 (i : Int) ∧ Below W2.heap.size W2 wr)
  case atStart => exact ⟨0, by omega, rfl, rfl, Below.refl _ _⟩
  case round =>
    obtain ⟨i, hi, rfl, rfl, hb⟩ := hrel
    by_cases hlt : i < 2
    · obtain ⟨p, hp, hn⟩ := HP.out i hlt
      have q : wr.cell? ⟨w.heap.size + 1, i, none⟩ = some (.pointer p) := (hb.cell (World.block_lt_of_cell? _ _ hp)).trans hp
      have hn1 := hn.below hb
      have S1 := Lib.hid (hsum_no _ wr hn1)
      rw [HZr.out] at S1
      have HN := Lib.hid hn1
      have HB := Lib.hid hb
      clear hb hn hn1 hp
      go_wp2_with fail
      refine S1.out.mono ?_
      rintro e w3 ⟨rfl, hb3⟩
      have HN3 := Lib.hid (HN.out.below hb3)
      have HB3 := Lib.hid (HB.out.trans (hb3.mono HB.out.size))
      clear S1 HN HB hb3 q
      go_upto_region 6 with (first | ((with_reducible show wpList _ _ _ (⟨none, .store 25 (.tmp 6) (.tmp 22), _, _, _, _⟩ :: _) _ _); rw [← HZ.out]; refine wpList_store_row rfl 25 (.tmp 6) (.tmp 22) rfl w3.heap.size Zr rfl rfl 25 _ (heap_new _ _ _ rfl) HSZ.out rfl hone ?_) | fail)
      generalize hW4 : (World.setRow _ _ _) = W4
      have b4 : Below w3.heap.size w3 W4 := by rw [← hW4]; exact below_setRow _ _ ((Below.refl _ _).alloc (Nat.le_refl _) _) (Nat.le_refl _)
      have z4 : W4.heap[w3.heap.size]? = some (.cells Zr 25 (0, 0)) := by rw [← hW4]; exact setRow_heap _ _ _ _ _ _ (heap_new _ _ _ rfl)
      have HN4 := HN3.out.below b4
      have S2 := Lib.hid (hcopy_no _ W4 HN4)
      have S3 := Lib.hid (hwrite_no _ bv W4 HN4)
      have HB4 := Lib.hid (HB3.out.trans (b4.mono HB3.out.size))
      have Z4 := Lib.hid z4
      clear HN3 HB3 hW4 b4 z4 HN4
      go_wp2_with (first | (go_at_call 43; refine S2.out.mono ?_; rintro e w5 ⟨rfl, rfl⟩) | (go_at_call 41; refine S3.out.mono ?_; rintro e w5 ⟨rfl, rfl⟩) | ((with_reducible show wpList _ _ _ (⟨some 42, .load 25 (.tmp 6), _, _, _, _⟩ :: _) _ _); refine Go.BigFrame.wpList_want (by kernel_rfl) fun K hK => wp_load_row 25 (.tmp 6) rfl w3.heap.size rfl 25 Zr _ Z4.out Try.underlying25 rfl HSZ.out (hK _ _ ?_); simp only [Act.put, List.setIfInBounds_toArray, List.set_cons_zero, List.set_cons_succ]; clear hK) | fail)
      go_roundg (2 - (i + 1))
      case measure => omega
      case rel => exact ⟨i + 1, by omega, rfl, by go_num, HB4.out⟩
    · have AL := Lib.hid (alive_any wr)
      have HB := Lib.hid (B2.out.trans (hb.mono B2.out.size))
      clear hb
      go_wp2_with (first | (go_at_call 27; refine AL.out.mono ?_; rintro e w8 ⟨rfl, hb8⟩) | fail)
      go_ret
      exact ⟨rfl, HB.out.trans (hb8.mono HB.out.size)⟩
end Go.Proofs.Ytjaakhjfpigdfaa
