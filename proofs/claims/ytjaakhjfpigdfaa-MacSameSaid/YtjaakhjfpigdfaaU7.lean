import Derived.Test.YtjaakhjfpigdfaaU6
/-! What a hash that nobody made answers: each refuses. -/
namespace Go.Proofs.Ytjaakhjfpigdfaa
open Go.RowKit
set_option linter.unusedVariables false
set_option linter.unusedSimpArgs false
/-- A hash that nobody made. -/
def NoHash (w : World) (p : Value) : Prop := ∀ w1, Below w.heap.size w w1 → Calls Try.prog 84 #[p] w1 fun e w' => e = .returned (.bool false) ∧ w1 = w'
theorem NoHash.nil (w : World) : NoHash w (.pointer none) := fun w1 _ => is_nil w1
theorem NoHash.below {w w' : World} {p : Value} (h : NoHash w p) (hb : Below w.heap.size w w') : NoHash w' p := fun w1 h1 => h w1 (hb.trans (h1.mono hb.size))
set_option maxRecDepth 100000 in
theorem is_no (g : Nat) (w : World) (h : w.cell? ⟨g, 10, none⟩ = some (.bool false)) : Calls Try.prog 84 #[.pointer (some ⟨g, 0, none⟩)] w fun e w' => e = .returned (.bool false) ∧ w = w' := by
  go_enter Try.func84, Try.ntmps84
  go_wp2
  go_ret
  exact ⟨rfl, rfl⟩
theorem NoHash.un {w : World} {g : Nat} (h : w.cell? ⟨g, 10, none⟩ = some (.bool false)) : NoHash w (.pointer (some ⟨g, 0, none⟩)) := fun w1 hb => is_no g w1 ((hb.cell (World.block_lt_of_cell? _ _ h)).trans h)
set_option maxRecDepth 100000 in
theorem hwrite_no (p bv : Value) (w : World) (h : NoHash w p) : Calls Try.prog 41 #[p, bv] w fun e w' => e = .returned (.int .i64 4) ∧ w = w' := by
  have IS := Lib.hid (h w (Below.refl _ _))
  clear h
  go_enter Try.func41, Try.ntmps41
  go_wp2_with (first | (go_at_call 84; refine IS.out.mono ?_; rintro e w2 ⟨rfl, rfl⟩) | fail)
  go_ret
  exact ⟨rfl, rfl⟩
set_option maxRecDepth 100000 in
theorem hcopy_no (p : Value) (w : World) (h : NoHash w p) : Calls Try.prog 43 #[p] w fun e w' => e = .returned (.tuple #[.pointer none, .int .i64 4]) ∧ w = w' := by
  have IS := Lib.hid (h w (Below.refl _ _))
  clear h
  go_enter Try.func43, Try.ntmps43
  go_wp2_with (first | (go_at_call 84; refine IS.out.mono ?_; rintro e w2 ⟨rfl, rfl⟩) | fail)
  exact bodyPost_ret (v := .tuple #[.pointer none, .int .i64 4]) (by simp [results, Try.results43, asAddr, Act.put]) rfl ⟨rfl, rfl⟩
set_option maxRecDepth 100000 in
theorem hsum_no (p : Value) (w : World) (h : NoHash w p) : Calls Try.prog 42 #[p] w fun e w' => e = .returned (.tuple #[.agg (V8 (List.replicate 32 0)), .int .i64 4]) ∧ Below w.heap.size w w' := by
  have hz := zeros32
  have hone := V8_one (List.replicate 32 0)
  obtain ⟨Zr, hZr⟩ : ∃ Z, V8 (List.replicate 32 0) = Z := ⟨_, rfl⟩
  rw [hZr] at hz hone
  have hZ := Lib.hid hz
  clear hz
  have z1 : (w.alloc (.cells Zr 25)).heap[w.heap.size]? = some (.cells Zr 25 (0, 0)) := heap_new _ _ _ rfl
  have b1 : Below w.heap.size w (w.alloc (.cells Zr 25)) := below_alloc1 _ _
  obtain ⟨W1, hW1⟩ : ∃ W, w.alloc (.cells Zr 25) = W := ⟨_, rfl⟩
  rw [hW1] at z1 b1
  have IS := Lib.hid (h W1 b1)
  have HSZ := Lib.hid (show (Try.prog.info? 25).map (·.size) = some Zr.size by rw [← hZr]; kernel_rfl)
  have HZr := Lib.hid hZr
  clear hZr
  have HW1 := Lib.hid hW1
  have Z1 := Lib.hid z1
  have B1 := Lib.hid b1
  clear hW1 z1 b1 h
  go_enter Try.func42, Try.ntmps42
  go_upto_region 1 with (fail)
  rw [← hZ.out, HW1.out]
  go_wp2_with (first | (go_at_call 84; refine IS.out.mono ?_; rintro e w2 ⟨rfl, rfl⟩) | ((with_reducible show wpList _ _ _ (⟨none, .store 25 (.tmp 2) (.tmp 7), _, _, _, _⟩ :: _) _ _); rw [← hZ.out]; refine wpList_store_row rfl 25 (.tmp 2) (.tmp 7) rfl w.heap.size Zr rfl rfl 25 _ Z1.out HSZ.out rfl hone ?_))
  have gz := setRow_heap W1 w.heap.size _ Zr _ _ Z1.out
  have hrv := run_loadVar_row (P := Try.prog) (W1.setRow w.heap.size Zr) w.heap.size 25 25 Zr (0, 0) _ gz Try.underlying25 rfl HSZ.out
  have BB : Below w.heap.size w (W1.setRow w.heap.size Zr) := below_setRow _ _ B1.out (Nat.le_refl _)
  exact bodyPost_ret (v := .tuple #[.agg Zr, .int .i64 4]) (by simp [results, Try.results42, asAddr, hrv, Act.put]) rfl ⟨by rw [HZr.out], BB⟩
end Go.Proofs.Ytjaakhjfpigdfaa
