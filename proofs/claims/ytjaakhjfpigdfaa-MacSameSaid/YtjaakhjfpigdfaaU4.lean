import Derived.Test.YtjaakhjfpigdfaaU2
/-! Sum of a hash. -/
namespace Go.Proofs.Ytjaakhjfpigdfaa
open Go.RowKit
set_option linter.unusedVariables false
set_option linter.unusedSimpArgs false
set_option maxRecDepth 100000 in
theorem hsum_any (g : Nat) (l : By) (w : World) (h : HashAt w g l) (hlen : l.length ≤ 140737488355000) : Calls Try.prog 42 #[.pointer (some ⟨g, 0, none⟩)] w fun e w' => e = .returned (.tuple #[.agg (V8 (sumL l)), .int .i64 0]) ∧ Below w.heap.size w w' := by
  have hZ := Lib.hid zeros32
  have z1 : (w.alloc (.cells (V8 (List.replicate 32 0)) 25)).heap[w.heap.size]? = some (.cells (V8 (List.replicate 32 0)) 25 (0, 0)) := heap_new _ _ _ rfl
  have b1 : Below w.heap.size w (w.alloc (.cells (V8 (List.replicate 32 0)) 25)) := below_alloc1 _ _
  have h1 : HashAt (w.alloc (.cells (V8 (List.replicate 32 0)) 25)) g l := h.below b1
  obtain ⟨W1, hW1⟩ : ∃ W, w.alloc (.cells (V8 (List.replicate 32 0)) 25) = W := ⟨_, rfl⟩
  rw [hW1] at z1 b1 h1
  have IS := Lib.hid (is_any g W1 h1.made)
  have EN := Lib.hid (end_any g l W1 h1 hlen)
  have hZl := sumL_len l
  obtain ⟨Z, hZ2⟩ : ∃ Z, sumL l = Z := ⟨_, rfl⟩
  rw [hZ2] at hZl EN ⊢
  have HSZ := Lib.hid (show (Try.prog.info? 25).map (·.size) = some (V8 Z).size by rw [V8_size, hZl]; kernel_rfl)
  have HZ2 := Lib.hid (show (V8 (List.replicate 32 0)).size = (V8 Z).size by rw [V8_size, V8_size, hZl]; rfl)
  have HW1 := Lib.hid hW1
  have Z1 := Lib.hid z1
  have B1 := Lib.hid b1
  clear hW1 h1 hZl hZ2 z1 b1 h
  go_enter Try.func42, Try.ntmps42
  go_upto_region 1 with (fail)
  rw [← hZ.out, HW1.out]
  go_wp2_with (first | (go_at_call 84; refine IS.out.mono ?_; rintro e w2 ⟨rfl, rfl⟩) | fail)
  refine EN.out.mono ?_
  rintro e w4 ⟨rfl, hb4⟩
  have z4 := Lib.hid (keepH hb4 Z1.out)
  have B4 := Lib.hid (B1.out.trans (hb4.mono B1.out.size))
  clear EN IS hb4 Z1 B1
  go_wp2_with ((with_reducible show wpList _ _ _ (⟨none, .store 25 (.tmp 2) (.tmp 9), _, _, _, _⟩ :: _) _ _); refine wpList_store_row rfl 25 (.tmp 2) (.tmp 9) rfl w.heap.size (V8 Z) rfl rfl 25 _ z4.out HSZ.out HZ2.out (V8_one _) ?_)
  have gz := setRow_heap w4 w.heap.size _ (V8 Z) _ _ z4.out
  have hrv := run_loadVar_row (P := Try.prog) (w4.setRow w.heap.size (V8 Z)) w.heap.size 25 25 (V8 Z) (0, 0) _ gz Try.underlying25 rfl HSZ.out
  exact bodyPost_ret (v := .tuple #[.agg (V8 Z), .int .i64 0]) (by simp [results, Try.results42, asAddr, hrv, Act.put]) rfl ⟨rfl, below_setRow _ _ B4.out (Nat.le_refl _)⟩
end Go.Proofs.Ytjaakhjfpigdfaa
