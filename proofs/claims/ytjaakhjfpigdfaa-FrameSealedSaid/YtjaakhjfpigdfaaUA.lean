import Derived.Test.YtjaakhjfpigdfaaR3
import Derived.Test.YtjaakhjfpigdfaaV4
import Derived.Great.BuildSlice
/-! A hash's `is`; Sum of a hash. -/
namespace Go.Proofs.Ytjaakhjfpigdfaa
open Go.RowKit
set_option linter.unusedVariables false
set_option linter.unusedSimpArgs false
set_option maxRecDepth 100000 in
theorem is_nil (w : World) : Calls Try.prog 84 #[.pointer none] w fun e w' => e = .returned (.bool false) ∧ w = w' := by
  go_enter Try.func84, Try.ntmps84
  go_wp2
  go_ret
  exact ⟨rfl, rfl⟩
theorem HashAt.made {w : World} {g : Nat} {l : By} (h : HashAt w g l) : w.cell? ⟨g, 10, none⟩ = some (.bool true) := by
  obtain ⟨lv, hc, _⟩ := h
  rw [Joins.cell_of_block hc]
  exact hash_made _ (stF_len l _) lv l.length
end Go.Proofs.Ytjaakhjfpigdfaa
/-! Sum of a hash. -/
namespace Go.Proofs.Ytjaakhjfpigdfaa
open Go.RowKit
set_option linter.unusedVariables false
set_option linter.unusedSimpArgs false
set_option maxRecDepth 100000 in
theorem hsum_any (g : Nat) (l : By) (w : World) (h : HashAt w g l) (hlen : l.length ≤ 140737488355000) : Calls Try.prog 42 #[.pointer (some ⟨g, 0, none⟩)] w fun e w' => e = .returned (.tuple #[.agg (V8 (sumL l)), .int .i64 0]) ∧ Below w.heap.size w w' := by
  have hZ := Lib.hid zeros32
  have z1 : (w.alloc (.cells (V8 (List.replicate 32 0)) 25)).heap[w.heap.size]? = some (.cells (V8 (List.replicate 32 0)) 25 (0, 0)) := heap_new _ _ _ rfl
  have b1 : Below w.heap.size w (w.alloc (.cells (V8 (List.replicate 32 0)) 25)) := below_alloc1 _ _
  have h1 : HashAt (w.alloc (.cells (V8 (List.replicate 32 0)) 25)) g l := h.below b1
  obtain ⟨W1, hW1⟩ : ∃ W, w.alloc (.cells (V8 (List.replicate 32 0)) 25) = W := ⟨_, rfl⟩
  rw [hW1] at z1 b1 h1
  have IS := Lib.hid (is_any g W1 h1.made)
  have EN := Lib.hid (end_any g l W1 h1 hlen)
  have hZl := sumL_len l
  obtain ⟨Z, hZ2⟩ : ∃ Z, sumL l = Z := ⟨_, rfl⟩
  rw [hZ2] at hZl EN ⊢
  have HSZ := Lib.hid (show (Try.prog.info? 25).map (·.size) = some (V8 Z).size by rw [V8_size, hZl]; kernel_rfl)
  have HZ2 := Lib.hid (show (V8 (List.replicate 32 0)).size = (V8 Z).size by rw [V8_size, V8_size, hZl]; rfl)
  have HW1 := Lib.hid hW1
  have Z1 := Lib.hid z1
  have B1 := Lib.hid b1
  clear hW1 h1 hZl hZ2 z1 b1 h
  go_enter Try.func42, Try.ntmps42
  go_upto_region 1 with (fail)
  rw [← hZ.out, HW1.out]
  go_wp2_with (first | (go_at_call 84; refine IS.out.mono ?_; rintro e w2 ⟨rfl, rfl⟩) | fail)
  refine EN.out.mono ?_
  rintro e w4 ⟨rfl, hb4⟩
  have z4 := Lib.hid (keepH hb4 Z1.out)
  have B4 := Lib.hid (B1.out.trans (hb4.mono B1.out.size))
  clear EN IS hb4 Z1 B1
  go_wp2_with ((with_reducible show wpList _ _ _ (⟨none, .store 25 (.tmp 2) (.tmp 9), _, _, _, _⟩ :: _) _ _); refine wpList_store_row rfl 25 (.tmp 2) (.tmp 9) rfl w.heap.size (V8 Z) rfl rfl 25 _ z4.out HSZ.out HZ2.out (V8_one _) ?_)
  have gz := setRow_heap w4 w.heap.size _ (V8 Z) _ _ z4.out
  have hrv := run_loadVar_row (P := Try.prog) (w4.setRow w.heap.size (V8 Z)) w.heap.size 25 25 (V8 Z) (0, 0) _ gz Try.underlying25 rfl HSZ.out
  exact bodyPost_ret (v := .tuple #[.agg (V8 Z), .int .i64 0]) (by simp [results, Try.results42, asAddr, hrv, Act.put]) rfl ⟨rfl, below_setRow _ _ B4.out (Nat.le_refl _)⟩
end Go.Proofs.Ytjaakhjfpigdfaa
/-! Copy of nobody. -/
namespace Go.Proofs.Ytjaakhjfpigdfaa
open Go.RowKit
set_option linter.unusedVariables false
set_option linter.unusedSimpArgs false
set_option maxRecDepth 100000 in
theorem hcopy_nil (w : World) : Calls Try.prog 43 #[.pointer none] w fun e w' => e = .returned (.tuple #[.pointer none, .int .i64 4]) ∧ w = w' := by
  have IS := Lib.hid (is_nil w)
  go_enter Try.func43, Try.ntmps43
  go_wp2_with (first | (go_at_call 84; refine IS.out.mono ?_; rintro e w2 ⟨rfl, rfl⟩) | fail)
  exact bodyPost_ret (v := .tuple #[.pointer none, .int .i64 4]) (by simp [results, Try.results43, Act.put]) rfl ⟨rfl, rfl⟩
end Go.Proofs.Ytjaakhjfpigdfaa
/-! Sum of nobody. -/
namespace Go.Proofs.Ytjaakhjfpigdfaa
open Go.RowKit
set_option linter.unusedVariables false
set_option linter.unusedSimpArgs false
set_option maxRecDepth 100000 in
theorem hsum_nil (w : World) : Calls Try.prog 42 #[.pointer none] w fun e w' => e = .returned (.tuple #[.agg (V8 (List.replicate 32 0)), .int .i64 4]) ∧ Below w.heap.size w w' := by
  have hz := zeros32
  have hone := V8_one (List.replicate 32 0)
  obtain ⟨Zr, hZr⟩ : ∃ Z, V8 (List.replicate 32 0) = Z := ⟨_, rfl⟩
  rw [hZr] at hz hone
  have hZ := Lib.hid hz
  clear hz
  have z1 : (w.alloc (.cells Zr 25)).heap[w.heap.size]? = some (.cells Zr 25 (0, 0)) := heap_new _ _ _ rfl
  have b1 : Below w.heap.size w (w.alloc (.cells Zr 25)) := below_alloc1 _ _
  obtain ⟨W1, hW1⟩ : ∃ W, w.alloc (.cells Zr 25) = W := ⟨_, rfl⟩
  rw [hW1] at z1 b1
  have IS := Lib.hid (is_nil W1)
  have HSZ := Lib.hid (show (Try.prog.info? 25).map (·.size) = some Zr.size by rw [← hZr]; kernel_rfl)
  have HZr := Lib.hid hZr
  clear hZr
  have HW1 := Lib.hid hW1
  have Z1 := Lib.hid z1
  have B1 := Lib.hid b1
  clear hW1 z1 b1
  go_enter Try.func42, Try.ntmps42
  go_upto_region 1 with (fail)
  rw [← hZ.out, HW1.out]
  go_wp2_with (first | (go_at_call 84; refine IS.out.mono ?_; rintro e w2 ⟨rfl, rfl⟩) | ((with_reducible show wpList _ _ _ (⟨none, .store 25 (.tmp 2) (.tmp 7), _, _, _, _⟩ :: _) _ _); rw [← hZ.out]; refine wpList_store_row rfl 25 (.tmp 2) (.tmp 7) rfl w.heap.size Zr rfl rfl 25 _ Z1.out HSZ.out rfl hone ?_))
  have gz := setRow_heap W1 w.heap.size _ Zr _ _ Z1.out
  have hrv := run_loadVar_row (P := Try.prog) (W1.setRow w.heap.size Zr) w.heap.size 25 25 Zr (0, 0) _ gz Try.underlying25 rfl HSZ.out
  have BB : Below w.heap.size w (W1.setRow w.heap.size Zr) := below_setRow _ _ B1.out (Nat.le_refl _)
  exact bodyPost_ret (v := .tuple #[.agg Zr, .int .i64 4]) (by simp [results, Try.results42, asAddr, hrv, Act.put]) rfl ⟨by rw [HZr.out], BB⟩
end Go.Proofs.Ytjaakhjfpigdfaa
/-! What a hash that nobody made answers: each refuses. -/
namespace Go.Proofs.Ytjaakhjfpigdfaa
open Go.RowKit
set_option linter.unusedVariables false
set_option linter.unusedSimpArgs false
/-- A hash that nobody made. -/
def NoHash (w : World) (p : Value) : Prop := ∀ w1, Below w.heap.size w w1 → Calls Try.prog 84 #[p] w1 fun e w' => e = .returned (.bool false) ∧ w1 = w'
theorem NoHash.nil (w : World) : NoHash w (.pointer none) := fun w1 _ => is_nil w1
theorem NoHash.below {w w' : World} {p : Value} (h : NoHash w p) (hb : Below w.heap.size w w') : NoHash w' p := fun w1 h1 => h w1 (hb.trans (h1.mono hb.size))
set_option maxRecDepth 100000 in
theorem is_no (g : Nat) (w : World) (h : w.cell? ⟨g, 10, none⟩ = some (.bool false)) : Calls Try.prog 84 #[.pointer (some ⟨g, 0, none⟩)] w fun e w' => e = .returned (.bool false) ∧ w = w' := by
  go_enter Try.func84, Try.ntmps84
  go_wp2
  go_ret
  exact ⟨rfl, rfl⟩
theorem NoHash.un {w : World} {g : Nat} (h : w.cell? ⟨g, 10, none⟩ = some (.bool false)) : NoHash w (.pointer (some ⟨g, 0, none⟩)) := fun w1 hb => is_no g w1 ((hb.cell (World.block_lt_of_cell? _ _ h)).trans h)
set_option maxRecDepth 100000 in
theorem hwrite_no (p bv : Value) (w : World) (h : NoHash w p) : Calls Try.prog 41 #[p, bv] w fun e w' => e = .returned (.int .i64 4) ∧ w = w' := by
  have IS := Lib.hid (h w (Below.refl _ _))
  clear h
  go_enter Try.func41, Try.ntmps41
  go_wp2_with (first | (go_at_call 84; refine IS.out.mono ?_; rintro e w2 ⟨rfl, rfl⟩) | fail)
  go_ret
  exact ⟨rfl, rfl⟩
set_option maxRecDepth 100000 in
theorem hcopy_no (p : Value) (w : World) (h : NoHash w p) : Calls Try.prog 43 #[p] w fun e w' => e = .returned (.tuple #[.pointer none, .int .i64 4]) ∧ w = w' := by
  have IS := Lib.hid (h w (Below.refl _ _))
  clear h
  go_enter Try.func43, Try.ntmps43
  go_wp2_with (first | (go_at_call 84; refine IS.out.mono ?_; rintro e w2 ⟨rfl, rfl⟩) | fail)
  exact bodyPost_ret (v := .tuple #[.pointer none, .int .i64 4]) (by simp [results, Try.results43, asAddr, Act.put]) rfl ⟨rfl, rfl⟩
set_option maxRecDepth 100000 in
theorem hsum_no (p : Value) (w : World) (h : NoHash w p) : Calls Try.prog 42 #[p] w fun e w' => e = .returned (.tuple #[.agg (V8 (List.replicate 32 0)), .int .i64 4]) ∧ Below w.heap.size w w' := by
  have hz := zeros32
  have hone := V8_one (List.replicate 32 0)
  obtain ⟨Zr, hZr⟩ : ∃ Z, V8 (List.replicate 32 0) = Z := ⟨_, rfl⟩
  rw [hZr] at hz hone
  have hZ := Lib.hid hz
  clear hz
  have z1 : (w.alloc (.cells Zr 25)).heap[w.heap.size]? = some (.cells Zr 25 (0, 0)) := heap_new _ _ _ rfl
  have b1 : Below w.heap.size w (w.alloc (.cells Zr 25)) := below_alloc1 _ _
  obtain ⟨W1, hW1⟩ : ∃ W, w.alloc (.cells Zr 25) = W := ⟨_, rfl⟩
  rw [hW1] at z1 b1
  have IS := Lib.hid (h W1 b1)
  have HSZ := Lib.hid (show (Try.prog.info? 25).map (·.size) = some Zr.size by rw [← hZr]; kernel_rfl)
  have HZr := Lib.hid hZr
  clear hZr
  have HW1 := Lib.hid hW1
  have Z1 := Lib.hid z1
  have B1 := Lib.hid b1
  clear hW1 z1 b1 h
  go_enter Try.func42, Try.ntmps42
  go_upto_region 1 with (fail)
  rw [← hZ.out, HW1.out]
  go_wp2_with (first | (go_at_call 84; refine IS.out.mono ?_; rintro e w2 ⟨rfl, rfl⟩) | ((with_reducible show wpList _ _ _ (⟨none, .store 25 (.tmp 2) (.tmp 7), _, _, _, _⟩ :: _) _ _); rw [← hZ.out]; refine wpList_store_row rfl 25 (.tmp 2) (.tmp 7) rfl w.heap.size Zr rfl rfl 25 _ Z1.out HSZ.out rfl hone ?_))
  have gz := setRow_heap W1 w.heap.size _ Zr _ _ Z1.out
  have hrv := run_loadVar_row (P := Try.prog) (W1.setRow w.heap.size Zr) w.heap.size 25 25 Zr (0, 0) _ gz Try.underlying25 rfl HSZ.out
  have BB : Below w.heap.size w (W1.setRow w.heap.size Zr) := below_setRow _ _ B1.out (Nat.le_refl _)
  exact bodyPost_ret (v := .tuple #[.agg Zr, .int .i64 4]) (by simp [results, Try.results42, asAddr, hrv, Act.put]) rfl ⟨by rw [HZr.out], BB⟩
end Go.Proofs.Ytjaakhjfpigdfaa
/-! Write to a hash. -/
namespace Go.Proofs.Ytjaakhjfpigdfaa
open Go.RowKit
set_option linter.unusedVariables false
set_option linter.unusedSimpArgs false
set_option maxRecDepth 100000 in
theorem hwrite_any (g : Nat) (l b : By) (bv : Value) (w : World) (h : HashAt w g l) (hbv : EqN w b bv) (hlen : l.length + b.length ≤ 1099511627776) : Calls Try.prog 41 #[.pointer (some ⟨g, 0, none⟩), bv] w fun e w' => e = .returned (.int .i64 0) ∧ HashAt w' g (l ++ b) ∧ Bes g w w' := by
  have IS := Lib.hid (is_any g w h.made)
  have TK := Lib.hid (take_any g l b bv w h hbv (by omega))
  have q9 : w.cell? ⟨g, 9, none⟩ = some (.int .u64 (l.length : Int)) := by obtain ⟨lv, hc, _⟩ := h; rw [Joins.cell_of_block hc]; exact hash_n _ (stL_len l) _ _
  obtain ⟨A, c, rfl, hcl, hr, hn⟩ := hbv
  have hr1 := hr.1
  obtain ⟨n, hn1⟩ : ∃ n, l.length = n := ⟨_, rfl⟩
  obtain ⟨m, hm1⟩ : ∃ n, b.length = n := ⟨_, rfl⟩
  rw [hn1] at q9 hlen
  rw [hm1] at hlen hr1 hcl TK ⊢
  have hle : (m : Int) ≤ 1099511627776 - (n : Int) := by omega
  clear h hr hn hn1 hm1
  go_enter Try.func41, Try.ntmps41
  go_wp2_with (first | (go_at_call 84; refine IS.out.mono ?_; rintro e w2 ⟨rfl, rfl⟩) | (go_at_call 72; refine TK.out.mono ?_; rintro e w3 ⟨rfl, h3, b3⟩; have H3 := Lib.hid h3; have B3 := Lib.hid b3; clear h3 b3) | fail)
  go_ret
  exact ⟨rfl, H3.out, B3.out⟩
end Go.Proofs.Ytjaakhjfpigdfaa
/-! Copy of a hash. -/
namespace Go.Proofs.Ytjaakhjfpigdfaa
open Go.RowKit
set_option linter.unusedVariables false
set_option linter.unusedSimpArgs false
set_option maxRecDepth 100000 in
set_option maxHeartbeats 4000000 in
theorem hcopy_any (g : Nat) (l : By) (w : World) (h : HashAt w g l) : Calls Try.prog 43 #[.pointer (some ⟨g, 0, none⟩)] w fun e w' => e = .returned (.tuple #[.pointer (some ⟨w.heap.size, 0, none⟩), .int .i64 0]) ∧ HashAt w' w.heap.size l ∧ Below w.heap.size w w' := by
  have IS := Lib.hid (is_any g w h.made)
  obtain ⟨lv, hc, hlv⟩ := h
  have HLV := Lib.hid (show ∃ a k c, lv = .slice a k c from by obtain ⟨a, c, e, _⟩ := hlv; exact ⟨a, _, c, e⟩)
  have hg : g < w.heap.size := (Array.getElem?_eq_some_iff.1 hc).1
  have hsl := stL_len l
  obtain ⟨la, lk, lc, hlf⟩ : ∃ a k c, lv = .slice a k c := HLV.out
  have hsz : (Try.prog.info? 60).map (·.size) = some (hashA (stL l) lv l.length).size := by rw [hashA_size _ hsl]; kernel_rfl
  have hone : (hashA (stL l) lv l.length).all (·.oneCell') = true := by rw [hlf]; exact hash_one _ _ _ _ _
  have HSZ := Lib.hid hsz
  have HONE := Lib.hid hone
  have HC := Lib.hid hc
  have HS := Lib.hid hsl
  have HCS := Lib.hid (hashA_size (stL l) hsl lv l.length)
  replace hlv := Lib.hid hlv
  obtain ⟨X, hX⟩ : ∃ X, hashA (stL l) lv l.length = X := ⟨_, rfl⟩
  rw [hX] at HSZ HONE HC HCS
  have HX := Lib.hid hX
  clear hsz hone hc hsl hX hlf
  go_enter Try.func43, Try.ntmps43
  go_upto_region 4 with (first | (go_at_call 84; refine IS.out.mono ?_; rintro e w2 ⟨rfl, rfl⟩) | ((with_reducible show wpList _ _ _ (⟨some 10, .load 60 (.tmp 9), _, _, _, _⟩ :: _) _ _); refine wpList_load_row rfl 60 (.tmp 9) rfl g rfl 60 X _ HC.out Try.underlying60 rfl HSZ.out ?_) | ((with_reducible show wpList _ _ _ (⟨none, .store 60 (.tmp 4) (.tmp 10), _, _, _, _⟩ :: _) _ _); refine wpList_store_row rfl 60 (.tmp 4) (.tmp 10) rfl w.heap.size X rfl rfl 60 _ (heap_new _ _ _ (by simp)) HSZ.out (by rw [HCS.out]; rfl) HONE.out ?_))
  generalize hW2 : (World.setRow _ _ _) = W2
  have b2 : Below w.heap.size w W2 := by rw [← hW2]; exact below_setRow _ _ ((Below.refl _ _).alloc (Nat.le_refl _) _) (by omega)
  have c2 : W2.heap[w.heap.size]? = some (.cells X 60 (0, 0)) := by rw [← hW2]; exact setRow_heap _ _ _ _ _ _ (heap_new _ _ _ (by simp))
  have hcg : W2.heap[g]? = some (.cells X 60 (0, 0)) := below_heap b2 HC.out hg
  have q8 : W2.cell? ⟨g, 8, none⟩ = some lv := by rw [Joins.cell_of_block hcg, ← HX.out]; exact hash_left _ HS.out _ _
  have hlt2 : w.heap.size < W2.heap.size := (Array.getElem?_eq_some_iff.1 c2).1
  have hrl := restL_len l
  have CL := Lib.hid (clone_any (restL l) lv W2 (hlv.out.below b2) (by omega))
  have B2 := Lib.hid b2
  have C2 := Lib.hid c2
  clear hW2 b2 c2 HC HSZ HCS HONE hlv hcg IS hrl
  simp only [Act.put]
  go_wp2_with fail
  refine CL.out.mono ?_
  rintro e w4 ⟨v5, rfl, hown5, hb5⟩
  have h5 : EqN w4 (restL l) v5 := EqN.own hown5
  have hc5 := keepH hb5 C2.out
  have hap5 : ∀ (ad : Addr) (x : Int), w4.cell? ad = some (.int .u8 x) → ad.block ≠ w.heap.size := fun a x hx => by
    obtain ⟨a', k', c', e'⟩ := HLV.out
    have h := hc5
    rw [← HX.out, e'] at h
    exact byte_apart HS.out h hx
  have hbe : Bes w.heap.size w4 (w4.setCell ⟨w.heap.size, 8, none⟩ v5) := (Bes.refl w.heap.size w4).setCell 8 _
  have H5 := Lib.hid (h5.bes hbe hap5)
  have hb4 := B2.out.trans (hb5.mono (by omega))
  have HB5 := Lib.hid (show Below w.heap.size w (w4.setCell ⟨w.heap.size, 8, none⟩ v5) from hb4.trans (hbe.to_below (Nat.le_refl _) hb4.size))
  have q8' : w4.cell? ⟨w.heap.size, 8, none⟩ = some lv := by rw [Joins.cell_of_block hc5, ← HX.out]; exact hash_left _ HS.out _ _
  have f8 := fr_of hc5 8
  have HC5 := Lib.hid (heap_setCell hc5 8 v5)
  obtain ⟨A5, r5, c5, rfl⟩ : ∃ a k c, v5 = .slice a k c := by obtain ⟨a, c, e, _⟩ := h5; exact ⟨a, _, c, e⟩
  clear CL hown5 hb5 h5 hc5 hap5 hbe B2 C2 q8 hb4
  go_wp2
  refine bodyPost_ret (v := .tuple #[.pointer (some ⟨w.heap.size, 0, none⟩), .int .i64 0]) (by simp [results, Try.results43, asAddr, Act.put]) rfl ⟨rfl, ?_, HB5.out⟩
  have := HC5.out
  rw [← HX.out, hash_setl _ HS.out] at this
  exact ⟨_, this, H5.out⟩
end Go.Proofs.Ytjaakhjfpigdfaa
/-! Appends of rows of slices; the empty literal. -/
namespace Go.Proofs.Ytjaakhjfpigdfaa
open Go.RowKit
set_option linter.unusedVariables false
set_option linter.unusedSimpArgs false
theorem wp_buildSlice0 {P : Program} {o : Oper} {a : Act} {w : World} {K : Act → World → Prop} {Q : Exit → Act → World → Prop} (t e : TypeId) (ho : o.op = .buildSlice t 0 #[]) (ie : TypeInfo)
    (hu : P.underlying t = some (.slice e)) (hie : P.info? e = some ie) (h : K (a.put o.dst (.slice (some ⟨w.heap.size, 0, none⟩) 0 0)) (w.alloc (.cells #[] e))) : o.wp P a w K Q := by
  unfold Oper.wp execOp
  simp [ho, Instr.buildSlice, run_underlying hu, sizeOf, typeInfo, hie, newRow, Instr.fill]
  rw [show (Array.range 0) = (#[] : Array Nat) from rfl, Array.map_empty]
  exact h
theorem wpList_buildSlice0 {P : Program} {ops : Array Oper} {rest : List Oper} {o : Oper} {a : Act} {w : World} {Q : Exit → Act → World → Prop} (hg : o.guard = none) (t e : TypeId) (ho : o.op = .buildSlice t 0 #[]) (ie : TypeInfo)
    (hu : P.underlying t = some (.slice e)) (hie : P.info? e = some ie) (h : wpList P ops Q rest (a.put o.dst (.slice (some ⟨w.heap.size, 0, none⟩) 0 0)) (w.alloc (.cells #[] e))) : wpList P ops Q (o :: rest) a w :=
  wpList_plain hg fun _ hK => wp_buildSlice0 t e ho ie hu hie (hK _ _ h)
theorem own_zero {w : World} {g base : Nat} {e : TypeId} (hg : w.heap[g]? = some (.cells #[] e (0, 0))) (hb : base ≤ g) : w.ownsRow base e 1 (.slice (some ⟨g, 0, none⟩) 0 0) 0 [] :=
  ⟨rfl, .inr ⟨g, 0, #[], rfl, hb, hg, Nat.le_refl _, by decide, rfl, rfl⟩⟩
theorem rdN_pick {w : World} {ad : Addr} {ps : List By} (h : RdN w (some ad) ps) : ∃ us : List Value, us.length = ps.length ∧ (∀ j, j < ps.length → ∃ u, us[j]? = some u ∧ w.cell? (ad.add j) = some u ∧ EqN w (ps.getD j []) u) := by
  have hc : ∀ j, ∃ u, j < ps.length → w.cell? (ad.add j) = some u ∧ EqN w (ps.getD j []) u := fun j => by
    by_cases hj : j < ps.length
    · obtain ⟨ad', u, e, h1, h2⟩ := h.at' j hj
      cases e
      exact ⟨u, fun _ => ⟨h1, h2⟩⟩
    · exact ⟨undef, fun h => absurd h hj⟩
  obtain ⟨f, hf⟩ := Classical.axiomOfChoice hc
  refine ⟨(List.range ps.length).map f, by simp, fun j hj => ⟨f j, by simp [hj], hf j hj⟩⟩
theorem run_append_rows {w0 w : World} (base : Nat) (ty : TypeId) (v : Value) (ps : List By) (hown : OwnP w0 w base v ps) (ad : Addr) (c : Nat) (qs : List By) (hr : RdN w0 (some ad) qs) (hb0 : Below w0.heap.size w0 w) (hc : qs.length ≤ c) (hmax : (ps.length + qs.length) * 24 ≤ 140737488355328) (hb : base ≤ w.heap.size) :
    ∃ v' w', (Builtin.append_ #[22, 22] ty #[v, .slice (some ad) qs.length c]).run Try.prog w = .ok v' w' ∧ OwnP w0 w' base v' (ps ++ qs) ∧ Below base w w' ∧ w.grownBy w' v.ownBlock := by
  obtain ⟨i0, hi, hz0, hz1, hz2⟩ := info_parts info35
  obtain ⟨vs, hov, he⟩ := hown
  have hl : vs.length = ps.length := by have := hov.1; simpa using this
  obtain ⟨us, hul, hus⟩ := rdN_pick hr
  obtain ⟨v', w', h1, h2, h3, h4⟩ := run_append_own (P := Try.prog) w base 22 ty 35 i0 (.slice none 0 0) 1 24 Try.underlying22 hi hz0 hz1 hz2 rfl (by decide) v ps.length vs hov ad qs.length c us (by omega) (fun j u hj => by
      have hjl : j < qs.length := by have := (List.getElem?_eq_some_iff.1 hj).1; omega
      obtain ⟨u', e1, e2, _⟩ := hus j hjl
      rw [hj] at e1
      cases e1
      exact (hb0.cell (World.block_lt_of_cell? _ _ e2)).trans e2) (fun u hu => by
      obtain ⟨j, hj, e⟩ := List.getElem_of_mem hu
      obtain ⟨u', e1, _, e3⟩ := hus j (by omega)
      rw [List.getElem?_eq_getElem hj, e] at e1
      cases e1
      obtain ⟨A, c, rfl, _⟩ := e3
      rfl) (by unfold maxLen; omega) (by omega) hb
  refine ⟨v', w', h1, ⟨vs ++ us, by rw [List.length_append]; exact h2, fun j hj => ?_⟩, (Below.refl base w).grown h3 hb (own_base' hov), h3⟩
  rw [List.length_append] at hj
  by_cases hlt : j < ps.length
  · obtain ⟨u', h1, h2⟩ := he j hlt
    refine ⟨u', by rw [List.getElem?_append_left (by omega)]; exact h1, ?_⟩
    rw [List.getD_eq_getElem?_getD, List.getElem?_append_left hlt, ← List.getD_eq_getElem?_getD]
    exact h2
  · obtain ⟨u, e1, _, e3⟩ := hus (j - ps.length) (by omega)
    refine ⟨u, by rw [List.getElem?_append_right (by omega), hl]; exact e1, ?_⟩
    rw [List.getD_eq_getElem?_getD, List.getElem?_append_right (by omega), ← List.getD_eq_getElem?_getD]
    exact e3
theorem wp_append_rows {w0 w : World} {o : Oper} {a : Act} {K : Act → World → Prop} {Q : Exit → Act → World → Prop} (s x : Operand) (ho : o.op = .call { callee := .builtin .append, args := #[s, x], argTypes := #[22, 22] })
    (base : Nat) (v : Value) (ps : List By) (hs : a.eval s = v) (hown : OwnP w0 w base v ps) (ad : Addr) (c : Nat) (qs : List By) (hx : a.eval x = .slice (some ad) qs.length c) (hr : RdN w0 (some ad) qs) (hb0 : Below w0.heap.size w0 w) (hc : qs.length ≤ c) (hmax : (ps.length + qs.length) * 24 ≤ 140737488355328) (hb : base ≤ w.heap.size)
    (h : ∀ v' w', OwnP w0 w' base v' (ps ++ qs) → Below base w w' → w.grownBy w' v.ownBlock → K (a.put o.dst v') w') : o.wp Try.prog a w K Q := by
  obtain ⟨v', w', hrun, h2, h3, h4⟩ := run_append_rows base o.type v ps hown ad c qs hr hb0 hc hmax hb
  unfold Oper.wp execOp
  simp only [ho, resolve, invoke, builtin, Sem.run_bind, Sem.run_pure, Result.andThen_ok, List.map_toArray, List.map_cons, List.map_nil, hs, hx, hrun]
  exact h v' w' h2 h3 h4
/-- The same of one row that lies in a block of its own. -/
theorem wp_append_row1 {w0 w : World} {o : Oper} {a : Act} {K : Act → World → Prop} {Q : Exit → Act → World → Prop} (s x : Operand) (ho : o.op = .call { callee := .builtin .append, args := #[s, x], argTypes := #[22, 22] })
    (base : Nat) (v : Value) (ps : List By) (hs : a.eval s = v) (hown : OwnP w0 w base v ps) (g : Nat) (p : By) (u : Value) (hx : a.eval x = .slice (some ⟨g, 0, none⟩) 1 1) (hc : w.cell? ⟨g, 0, none⟩ = some u) (hu : EqN w0 p u) (hmax : (ps.length + 1) * 24 ≤ 140737488355328) (hb : base ≤ w.heap.size)
    (h : ∀ v' w', OwnP w0 w' base v' (ps ++ [p]) → Below base w w' → K (a.put o.dst v') w') : o.wp Try.prog a w K Q := by
  obtain ⟨i0, hi, hz0, hz1, hz2⟩ := info_parts info35
  obtain ⟨vs, hov, he⟩ := hown
  have hl : vs.length = ps.length := by have := hov.1; simpa using this
  obtain ⟨A, n, c, rfl⟩ : ∃ A n c, u = .slice A n c := by obtain ⟨A, c, e, _⟩ := hu; exact ⟨A, _, c, e⟩
  obtain ⟨v', w', h1, h2, h3, h4⟩ := run_append_own (P := Try.prog) w base 22 o.type 35 i0 (.slice none 0 0) 1 24 Try.underlying22 hi hz0 hz1 hz2 rfl (by decide) v ps.length vs hov ⟨g, 0, none⟩ 1 1 [.slice A n c] rfl (fun j u' hj => by
      match j, hj with
      | 0, hj => simp at hj; subst hj; rw [add_zero_off]; exact hc) (oneSlice A n c) (by unfold maxLen; omega) (by omega) hb
  have hO : OwnP w0 w' base v' (ps ++ [p]) := by
    refine ⟨vs ++ [.slice A n c], by rw [List.length_append]; exact h2, fun j hj => ?_⟩
    rw [List.length_append] at hj
    by_cases hlt : j < ps.length
    · obtain ⟨u', h1, h2⟩ := he j hlt
      refine ⟨u', by rw [List.getElem?_append_left (by omega)]; exact h1, ?_⟩
      rw [List.getD_eq_getElem?_getD, List.getElem?_append_left hlt, ← List.getD_eq_getElem?_getD]
      exact h2
    · have e : j = ps.length := by simp at hj; omega
      subst e
      refine ⟨.slice A n c, by rw [← hl]; simp, ?_⟩
      rw [List.getD_eq_getElem?_getD, List.getElem?_append_right (Nat.le_refl _)]
      simpa using hu
  unfold Oper.wp execOp
  simp only [ho, resolve, invoke, builtin, Sem.run_bind, Sem.run_pure, Result.andThen_ok, List.map_toArray, List.map_cons, List.map_nil, hs, hx, h1]
  exact h v' w' hO ((Below.refl base w).grown h3 hb (own_base' hov))
set_option maxRecDepth 100000 in
theorem slice22 (A : Option Addr) (n c k : Nat) (hk : k ≤ c) (w : World) : (Instr.sliceAt 22 (.slice A n c) none (some (.int .i64 (k : Int))) none).run Try.prog w = .ok (.slice A k c) w := by
  have h : (k : Int) ≤ (c : Int) := by omega
  rw [run_sliceAt_slice w 22 _ _ _ _ Try.underlying22]
  rw [run_slice_h w 22 A n c Try.underlying22 .i64 k (by omega) h]
  simp [go_sem, Try.underlying22]
end Go.Proofs.Ytjaakhjfpigdfaa
