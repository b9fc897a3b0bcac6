import Derived.Test.YtjaakhjfpigdfaaX8
import Derived.Test.YtjaakhjfpigdfaaX
import Derived.Test.YtjaakhjfpigdfaaY
import Derived.Deep.CutRange
/-! ShaTexts. -/
namespace Go.Proofs.Ytjaakhjfpigdfaa
open Go.RowKit
set_option linter.unusedVariables false
set_option linter.unusedSimpArgs false
def pdTX (D Y : By) (e0 : Int) : Nat → Value → World → Prop
  | 0 => fun v w => v = .agg (V8 D)
  | 1 => fun v w => v = .string ⟨(textL D).toArray⟩
  | 2 => fun v w => v = .agg (V8 D)
  | 3 => fun v w => v = .string ⟨(textL D).toArray⟩
  | 4 => fun v w => v = .bool true
  | 5 => fun v w => v = .bool true
  | 6 => fun v w => v = .agg (V8 Y)
  | 7 => fun v w => v = .agg (V8 Y)
  | 8 => fun v w => v = .bool true
  | 9 => fun v w => v = .bool true
  | 10 => fun v w => v = .bool true
  | 11 => fun v w => v = .int .i64 e0
  | 12 => fun v w => v = .int .i64 e0
  | 13 => fun v w => v = .bool true
  | 14 => fun v w => v = .bool true
  | 15 => fun v w => v = .bool true
  | 16 => fun v w => v = .agg (V8 D)
  | 17 => fun v w => v = .agg (V8 D)
  | 18 => fun v w => v = .bool true
  | 19 => fun v w => v = .bool true
  | 20 => fun v w => v = .bool true
  | 21 => fun v w => v = .int .i64 0
  | 22 => fun v w => v = .bool true
  | 23 => fun v w => v = .bool true
  | 24 => fun v w => v = .bool true
  | 25 => fun v w => v = .bool true
  | 26 => fun v w => v = .bool true
  | _ => fun _ _ => True
theorem pdTX_mono (D Y : By) (e0 : Int) : ∀ q v w w', pdTX D Y e0 q v w → Below w.heap.size w w' → pdTX D Y e0 q v w'
  | 0, _, _, _, h, _ => h
  | 1, _, _, _, h, _ => h
  | 2, _, _, _, h, _ => h
  | 3, _, _, _, h, _ => h
  | 4, _, _, _, h, _ => h
  | 5, _, _, _, h, _ => h
  | 6, _, _, _, h, _ => h
  | 7, _, _, _, h, _ => h
  | 8, _, _, _, h, _ => h
  | 9, _, _, _, h, _ => h
  | 10, _, _, _, h, _ => h
  | 11, _, _, _, h, _ => h
  | 12, _, _, _, h, _ => h
  | 13, _, _, _, h, _ => h
  | 14, _, _, _, h, _ => h
  | 15, _, _, _, h, _ => h
  | 16, _, _, _, h, _ => h
  | 17, _, _, _, h, _ => h
  | 18, _, _, _, h, _ => h
  | 19, _, _, _, h, _ => h
  | 20, _, _, _, h, _ => h
  | 21, _, _, _, h, _ => h
  | 22, _, _, _, h, _ => h
  | 23, _, _, _, h, _ => h
  | 24, _, _, _, h, _ => h
  | 25, _, _, _, h, _ => h
  | 26, _, _, _, h, _ => h
  | _ + 27, _, _, _, _, _ => trivial
set_option maxRecDepth 100000 in
set_option maxHeartbeats 4000000 in
theorem shaTexts_true (D : By) (s : ByteArray) (w : World) (hD : D.length = 32) (hs : s.size ≤ 140737488351232) : Calls Try.prog 7 #[.agg (V8 D), .string s] w fun e w' => e = .returned (.bool true) ∧ Below w.heap.size w w' := by
  have hz := zeros32
  have hzs : (V8 (List.replicate 32 0)).size = 32 := by rw [V8_size]; rfl
  obtain ⟨Zr, hZr⟩ : ∃ Z, V8 (List.replicate 32 0) = Z := ⟨_, rfl⟩
  rw [hZr] at hz hzs
  have HZ := Lib.hid hz
  have HZS := Lib.hid hzs
  have HDL := Lib.hid hD
  have HSD := Lib.hid (show (Try.prog.info? 25).map (·.size) = some (V8 D).size by rw [V8_size, hD]; kernel_rfl)
  have HZD := Lib.hid (show Zr.size = (V8 D).size by rw [V8_size, hD, hzs])
  have HEQD := Lib.hid (fun w => eq_dig 25 Try.underlying25 D D hD hD w)
  rw [show (D == D) = true by simp] at HEQD
  clear hz hzs hZr hD
  have q2 := Lib.hid (heap_new w (.cells (V8 D) 25) w.heap.size rfl)
  have b2 := Lib.hid (below_alloc1 w (.cells (V8 D) 25))
  go_enter Try.func7, Try.ntmps7
  go_upto_if 13 with (fail)
  obtain ⟨W1, hW1⟩ : ∃ W, w.alloc (.cells (V8 D) 25) = W := ⟨_, rfl⟩
  obtain ⟨g2, hg2⟩ : ∃ g, w.heap.size = g := ⟨_, rfl⟩
  rw [hW1, hg2] at q2
  rw [hW1] at b2
  rw [hW1, hg2]
  have HG2 := Lib.hid hg2
  clear hW1 hg2
  go_cut [1] from 14 to 15 (fun v wx => ∃ s2 : ByteArray, s2.size ≤ 140737488351232 ∧ v = .string s2 ∧ wx = W1)
  case first =>
    by_cases h6 : 200 < s.size
    · have hdt : decide ((200 : Int) < (s.size : Int)) = true := by simp; omega
      go_wp2
      try rw [← hdt]
      go_meet
      case rel => exact ⟨_, by simp; omega, rfl, rfl⟩
    · go_wp2
      go_meet
      case rel => exact ⟨s, hs, rfl, rfl⟩
  case rest =>
    obtain ⟨s2, hs2, rfl, rfl⟩ := hcut
    have HRT := Lib.hid (show ∀ w, Calls Try.prog 36 #[.string ⟨(textL D).toArray⟩] w fun e w' => e = .returned (.tuple #[.agg (V8 D), .int .i64 0]) ∧ Below w.heap.size w w' from fun w => by
      have hl := textL_len D
      have h := read_any ⟨(textL D).toArray⟩ w (by show (textL D).toArray.size ≤ _; rw [List.size_toArray, hl, HDL.out]; decide)
      have e : (⟨(textL D).toArray⟩ : ByteArray).data.toList = textL D := by simp
      rw [e] at h
      unfold readD readE at h
      rw [okText_text D HDL.out, if_pos rfl, if_pos rfl, pairs_text D HDL.out] at h
      exact h)
    have R1 := Lib.hid (fun w => read_any s2 w hs2)
    have R2 := Lib.hid (fun w => rread_any s2 w hs2)
    have hYl := readD_len s2.data.toList
    obtain ⟨Y, hY⟩ : ∃ Y, readD s2.data.toList = Y := ⟨_, rfl⟩
    obtain ⟨e0, he0⟩ : ∃ e, readE s2.data.toList = e := ⟨_, rfl⟩
    rw [hY] at hYl R1 R2
    rw [he0] at R1 R2
    have HSY := Lib.hid (show (Try.prog.info? 25).map (·.size) = some (V8 Y).size by rw [V8_size, hYl]; kernel_rfl)
    have HSY4 := Lib.hid (show (Try.prog.info? 24).map (·.size) = some (V8 Y).size by rw [V8_size, hYl]; kernel_rfl)
    have HZY := Lib.hid (show Zr.size = (V8 Y).size by rw [V8_size, hYl, HZS.out])
    have HEQY := Lib.hid (fun w => eq_dig 25 Try.underlying25 Y Y hYl hYl w)
    rw [show (Y == Y) = true by simp] at HEQY
    clear hY he0 hYl hs
    have TX := Lib.hid (fun w => text_any D HDL.out w)
    go_wp2_with fail
    refine (R1.out _).mono ?_
    rintro e w2 ⟨rfl, hb2⟩
    have Q2a := Lib.hid (keepH hb2 q2.out)
    have HBa := Lib.hid (b2.out.trans (hb2.mono b2.out.size))
    clear q2 b2 hb2 R1
    go_upto_region 4 with (first | ((with_reducible show wpList _ _ _ (⟨none, .store 25 (.tmp 5) (.tmp 19), _, _, _, _⟩ :: _) _ _); rw [← HZ.out]; refine wpList_store_row rfl 25 (.tmp 5) (.tmp 19) rfl w2.heap.size (V8 Y) rfl rfl 25 _ (heap_new _ _ _ rfl) HSY.out HZY.out (V8_one _) ?_) | fail)
    generalize hW3 : (World.setRow _ _ _) = W3
    obtain ⟨g5, hg5⟩ : ∃ g, w2.heap.size = g := ⟨_, rfl⟩
    have b3 : Below w2.heap.size w2 W3 := by rw [← hW3]; exact below_setRow _ _ ((Below.refl _ _).alloc (Nat.le_refl _) _) (Nat.le_refl _)
    have Q5a := Lib.hid (show W3.heap[g5]? = some (.cells (V8 Y) 25 (0, 0)) by rw [← hW3, ← hg5]; exact setRow_heap _ _ _ _ _ _ (heap_new _ _ _ rfl))
    have Q2b := Lib.hid (keepH b3 Q2a.out)
    have HBb := Lib.hid (HBa.out.trans (b3.mono HBa.out.size))
    rw [hg5]
    clear hW3 hg5 b3 Q2a HBa
    go_wp2_with fail
    refine (R2.out _).mono ?_
    rintro e w4 ⟨rfl, hb4⟩
    have Q2c := Lib.hid (keepH hb4 Q2b.out)
    have Q5c := Lib.hid (keepH hb4 Q5a.out)
    have HBc := Lib.hid (HBb.out.trans (hb4.mono HBb.out.size))
    clear hb4 Q2b Q5a HBb R2
    go_upto_region 5 with (first | ((with_reducible show wpList _ _ _ (⟨none, .store 24 (.tmp 7) (.tmp 24), _, _, _, _⟩ :: _) _ _); rw [← HZ.out]; refine wpList_store_row rfl 24 (.tmp 7) (.tmp 24) rfl w4.heap.size (V8 Y) rfl rfl 24 _ (heap_new _ _ _ rfl) HSY4.out HZY.out (V8_one _) ?_) | fail)
    generalize hW5 : (World.setRow _ _ _) = W5
    obtain ⟨g7, hg7⟩ : ∃ g, w4.heap.size = g := ⟨_, rfl⟩
    have b5 : Below w4.heap.size w4 W5 := by rw [← hW5]; exact below_setRow _ _ ((Below.refl _ _).alloc (Nat.le_refl _) _) (Nat.le_refl _)
    have Q7d := Lib.hid (show W5.heap[g7]? = some (.cells (V8 Y) 24 (0, 0)) by rw [← hW5, ← hg7]; exact setRow_heap _ _ _ _ _ _ (heap_new _ _ _ rfl))
    have Q2d := Lib.hid (keepH b5 Q2c.out)
    have Q5d := Lib.hid (keepH b5 Q5c.out)
    have HBd := Lib.hid (HBc.out.trans (b5.mono HBc.out.size))
    rw [hg7]
    clear hW5 hg7 b5 Q2c Q5c HBc
    go_wp2_with (first | ((with_reducible show wpList _ _ _ (⟨some 27, .load 25 (.tmp 2), _, _, _, _⟩ :: _) _ _); refine wpList_load_row rfl 25 (.tmp 2) rfl g2 rfl 25 (V8 D) _ Q2d.out Try.underlying25 rfl HSD.out ?_) | fail)
    refine (TX.out _).mono ?_
    rintro e w6 ⟨rfl, hb6⟩
    go_wp2_with fail
    refine (HRT.out _).mono ?_
    rintro e w7 ⟨rfl, hb7⟩
    have hb67 := hb6.trans (hb7.mono hb6.size)
    have Q2e := Lib.hid (keepH hb67 Q2d.out)
    have Q5e := Lib.hid (keepH hb67 Q5d.out)
    have Q7e := Lib.hid (keepH hb67 Q7d.out)
    have HBe := Lib.hid (HBd.out.trans (hb67.mono HBd.out.size))
    clear hb6 hb7 hb67 Q2d Q5d Q7d HBd HRT TX
    go_upto_region 6 with (first | ((with_reducible show wpList _ _ _ (⟨none, .store 25 (.tmp 9) (.tmp 30), _, _, _, _⟩ :: _) _ _); rw [← HZ.out]; refine wpList_store_row rfl 25 (.tmp 9) (.tmp 30) rfl w7.heap.size (V8 D) rfl rfl 25 _ (heap_new _ _ _ rfl) HSD.out HZD.out (V8_one _) ?_) | fail)
    generalize hW8 : (World.setRow _ _ _) = W8
    obtain ⟨g9, hg9⟩ : ∃ g, w7.heap.size = g := ⟨_, rfl⟩
    have b8 : Below w7.heap.size w7 W8 := by rw [← hW8]; exact below_setRow _ _ ((Below.refl _ _).alloc (Nat.le_refl _) _) (Nat.le_refl _)
    have Q9 := Lib.hid (show W8.heap[g9]? = some (.cells (V8 D) 25 (0, 0)) by rw [← hW8, ← hg9]; exact setRow_heap _ _ _ _ _ _ (heap_new _ _ _ rfl))
    have Q2 := Lib.hid (keepH b8 Q2e.out)
    have Q5 := Lib.hid (keepH b8 Q5e.out)
    have Q7 := Lib.hid (keepH b8 Q7e.out)
    have HB8 := Lib.hid (HBe.out.trans (b8.mono HBe.out.size))
    rw [hg9]
    clear hW8 hg9 b8 Q2e Q5e Q7e HBe
    refine wp_region_mono (w0 := _) 27 [some 32, some 33, some 34, some 35, some 36, some 37, some 38, some 39, some 40, some 41, some 42, some 43, some 44, some 45, some 46, some 47, some 48, some 49, some 50, some 51, some 52, some 53, some 54, some 55, some 56, some 57, some 58] (by kernel_rfl) (by kernel_rfl) (by kernel_rfl) (by kernel_rfl) (of_decide_eq_true (by kernel_rfl)) (by kernel_rfl) (pdTX D Y e0) ?_ ?_ ?_
    · exact pdTX_mono D Y e0
    · intro i hi o w1 b ho hbel hv hstood hsize K hK
      have hc : i = 0 ∨ i = 1 ∨ i = 2 ∨ i = 3 ∨ i = 4 ∨ i = 5 ∨ i = 6 ∨ i = 7 ∨ i = 8 ∨ i = 9 ∨ i = 10 ∨ i = 11 ∨ i = 12 ∨ i = 13 ∨ i = 14 ∨ i = 15 ∨ i = 16 ∨ i = 17 ∨ i = 18 ∨ i = 19 ∨ i = 20 ∨ i = 21 ∨ i = 22 ∨ i = 23 ∨ i = 24 ∨ i = 25 ∨ i = 26 := by omega
      rcases hc with rfl | rfl | rfl | rfl | rfl | rfl | rfl | rfl | rfl | rfl | rfl | rfl | rfl | rfl | rfl | rfl | rfl | rfl | rfl | rfl | rfl | rfl | rfl | rfl | rfl | rfl | rfl
      · obtain rfl : (⟨some 32, .load 25 (Operand.tmp 2), _, _, _, _⟩ : Oper) = o := Option.some.inj ho
        refine ask_plain rfl ?_
        have e1 : b.eval (.tmp 2) = .pointer (some ⟨g2, 0, none⟩) := (hstood 2 (by kernel_rfl)).trans rfl
        exact wp_load_cells 25 (.tmp 2) rfl ⟨g2, 0, none⟩ e1 (V8 D) (.array 32 5) rfl (fun j v hj => by rw [add_zero_off, Joins.cell_of_block ((hbel.block _ (Array.getElem?_eq_some_iff.1 Q2.out).1).trans Q2.out)]; exact hj) Try.underlying25 HSD.out (hK _ _ rfl (Below.refl _ _))
      · obtain rfl : (⟨some 33, .call { callee := (Callee.value (Operand.func 38)), args := #[(Operand.tmp 32)], argTypes := #[25] }, _, _, _, _⟩ : Oper) = o := Option.some.inj ho
        refine ask_plain rfl ?_
        have e1 : b.eval (.tmp 32) = .agg (V8 D) := hv 0 32 (by kernel_rfl) (by kernel_rfl) (of_decide_eq_true (by kernel_rfl))
        refine wp_call_fn 38 #[.tmp 32] #[25] rfl Try.f38 _ Try.func38 (by kernel_rfl) rfl #[.agg (V8 D)] (by simp [e1]) ((text_any D HDL.out w1).mono ?_)
        rintro e w2 ⟨rfl, hb2⟩
        exact ⟨_, rfl, hK _ _ rfl hb2⟩
      · obtain rfl : (⟨some 34, .load 25 (Operand.tmp 2), _, _, _, _⟩ : Oper) = o := Option.some.inj ho
        refine ask_plain rfl ?_
        have e1 : b.eval (.tmp 2) = .pointer (some ⟨g2, 0, none⟩) := (hstood 2 (by kernel_rfl)).trans rfl
        exact wp_load_cells 25 (.tmp 2) rfl ⟨g2, 0, none⟩ e1 (V8 D) (.array 32 5) rfl (fun j v hj => by rw [add_zero_off, Joins.cell_of_block ((hbel.block _ (Array.getElem?_eq_some_iff.1 Q2.out).1).trans Q2.out)]; exact hj) Try.underlying25 HSD.out (hK _ _ rfl (Below.refl _ _))
      · obtain rfl : (⟨some 35, .call { callee := (Callee.value (Operand.func 39)), args := #[(Operand.tmp 34)], argTypes := #[24] }, _, _, _, _⟩ : Oper) = o := Option.some.inj ho
        refine ask_plain rfl ?_
        have e1 : b.eval (.tmp 34) = .agg (V8 D) := hv 2 34 (by kernel_rfl) (by kernel_rfl) (of_decide_eq_true (by kernel_rfl))
        refine wp_call_fn 39 #[.tmp 34] #[24] rfl Try.f39 _ Try.func39 (by kernel_rfl) rfl #[.agg (V8 D)] (by simp [e1]) ((rtext_any D HDL.out w1).mono ?_)
        rintro e w2 ⟨rfl, hb2⟩
        exact ⟨_, rfl, hK _ _ rfl hb2⟩
      · obtain rfl : (⟨some 36, .binOp BinOp.eql 9 (Operand.tmp 33) (Operand.tmp 35) 9, _, _, _, _⟩ : Oper) = o := Option.some.inj ho
        refine ask_plain rfl ?_
        have e1 : b.eval (.tmp 33) = .string ⟨(textL D).toArray⟩ := hv 1 33 (by kernel_rfl) (by kernel_rfl) (of_decide_eq_true (by kernel_rfl))
        have e2 : b.eval (.tmp 35) = .string ⟨(textL D).toArray⟩ := hv 3 35 (by kernel_rfl) (by kernel_rfl) (of_decide_eq_true (by kernel_rfl))
        exact wp_val (.bool true) (by simp only [execOp, e1, e2]; simp [go_sem]) (hK _ _ rfl (Below.refl _ _))
      · obtain rfl : (⟨some 37, .move (Operand.tmp 36), _, _, _, _⟩ : Oper) = o := Option.some.inj ho
        refine ask_plain rfl ?_
        have e : b.eval (.tmp 36) = .bool true := hv 4 36 (by kernel_rfl) (by kernel_rfl) (of_decide_eq_true (by kernel_rfl))
        exact wp_val _ rfl (hK _ _ e (Below.refl _ _))
      · obtain rfl : (⟨some 38, .load 25 (Operand.tmp 5), _, _, _, _⟩ : Oper) = o := Option.some.inj ho
        have hgd := hv 5 37 (by kernel_rfl) (by kernel_rfl) (of_decide_eq_true (by kernel_rfl))
        refine ask_yes 5 37 true rfl (by kernel_rfl) (by rw [hsize]; exact (of_decide_eq_true (by kernel_rfl))) hgd ?_
        have e1 : b.eval (.tmp 5) = .pointer (some ⟨g5, 0, none⟩) := (hstood 5 (by kernel_rfl)).trans rfl
        exact wp_load_cells 25 (.tmp 5) rfl ⟨g5, 0, none⟩ e1 (V8 Y) (.array 32 5) rfl (fun j v hj => by rw [add_zero_off, Joins.cell_of_block ((hbel.block _ (Array.getElem?_eq_some_iff.1 Q5.out).1).trans Q5.out)]; exact hj) Try.underlying25 HSY.out (hK _ _ rfl (Below.refl _ _))
      · obtain rfl : (⟨some 39, .load 24 (Operand.tmp 7), _, _, _, _⟩ : Oper) = o := Option.some.inj ho
        have hgd := hv 5 37 (by kernel_rfl) (by kernel_rfl) (of_decide_eq_true (by kernel_rfl))
        refine ask_yes 5 37 true rfl (by kernel_rfl) (by rw [hsize]; exact (of_decide_eq_true (by kernel_rfl))) hgd ?_
        have e1 : b.eval (.tmp 7) = .pointer (some ⟨g7, 0, none⟩) := (hstood 7 (by kernel_rfl)).trans rfl
        exact wp_load_cells 24 (.tmp 7) rfl ⟨g7, 0, none⟩ e1 (V8 Y) (.array 32 5) rfl (fun j v hj => by rw [add_zero_off, Joins.cell_of_block ((hbel.block _ (Array.getElem?_eq_some_iff.1 Q7.out).1).trans Q7.out)]; exact hj) Try.underlying24 HSY4.out (hK _ _ rfl (Below.refl _ _))
      · obtain rfl : (⟨some 40, .binOp BinOp.eql 25 (Operand.tmp 38) (Operand.tmp 39) 25, _, _, _, _⟩ : Oper) = o := Option.some.inj ho
        have hgd := hv 5 37 (by kernel_rfl) (by kernel_rfl) (of_decide_eq_true (by kernel_rfl))
        refine ask_yes 5 37 true rfl (by kernel_rfl) (by rw [hsize]; exact (of_decide_eq_true (by kernel_rfl))) hgd ?_
        have e1 : b.eval (.tmp 38) = .agg (V8 Y) := hv 6 38 (by kernel_rfl) (by kernel_rfl) (of_decide_eq_true (by kernel_rfl))
        have e2 : b.eval (.tmp 39) = .agg (V8 Y) := hv 7 39 (by kernel_rfl) (by kernel_rfl) (of_decide_eq_true (by kernel_rfl))
        exact wp_val (.bool true) (by simp only [execOp, e1, e2]; simp [go_sem, HEQY.out]) (hK _ _ rfl (Below.refl _ _))
      · obtain rfl : (⟨some 41, .pick (Operand.tmp 37) (Operand.tmp 40) (Operand.const (Value.bool false)), _, _, _, _⟩ : Oper) = o := Option.some.inj ho
        refine ask_plain rfl ?_
        have e1 : b.eval (.tmp 37) = .bool true := hv 5 37 (by kernel_rfl) (by kernel_rfl) (of_decide_eq_true (by kernel_rfl))
        have e2 : b.eval (.tmp 40) = .bool true := hv 8 40 (by kernel_rfl) (by kernel_rfl) (of_decide_eq_true (by kernel_rfl))
        exact wp_val (.bool true) (by simp only [execOp, e1, e2]; rfl) (hK _ _ rfl (Below.refl _ _))
      · obtain rfl : (⟨some 42, .move (Operand.tmp 41), _, _, _, _⟩ : Oper) = o := Option.some.inj ho
        refine ask_plain rfl ?_
        have e : b.eval (.tmp 41) = .bool true := hv 9 41 (by kernel_rfl) (by kernel_rfl) (of_decide_eq_true (by kernel_rfl))
        exact wp_val _ rfl (hK _ _ e (Below.refl _ _))
      · obtain rfl : (⟨some 43, .move (Operand.tmp 6), _, _, _, _⟩ : Oper) = o := Option.some.inj ho
        have hgd := hv 10 42 (by kernel_rfl) (by kernel_rfl) (of_decide_eq_true (by kernel_rfl))
        refine ask_yes 10 42 true rfl (by kernel_rfl) (by rw [hsize]; exact (of_decide_eq_true (by kernel_rfl))) hgd ?_
        have e : b.eval (.tmp 6) = .int .i64 e0 := (hstood 6 (by kernel_rfl)).trans rfl
        exact wp_val _ rfl (hK _ _ e (Below.refl _ _))
      · obtain rfl : (⟨some 44, .move (Operand.tmp 8), _, _, _, _⟩ : Oper) = o := Option.some.inj ho
        have hgd := hv 10 42 (by kernel_rfl) (by kernel_rfl) (of_decide_eq_true (by kernel_rfl))
        refine ask_yes 10 42 true rfl (by kernel_rfl) (by rw [hsize]; exact (of_decide_eq_true (by kernel_rfl))) hgd ?_
        have e : b.eval (.tmp 8) = .int .i64 e0 := (hstood 8 (by kernel_rfl)).trans rfl
        exact wp_val _ rfl (hK _ _ e (Below.refl _ _))
      · obtain rfl : (⟨some 45, .binOp BinOp.eql 3 (Operand.tmp 43) (Operand.tmp 44) 3, _, _, _, _⟩ : Oper) = o := Option.some.inj ho
        have hgd := hv 10 42 (by kernel_rfl) (by kernel_rfl) (of_decide_eq_true (by kernel_rfl))
        refine ask_yes 10 42 true rfl (by kernel_rfl) (by rw [hsize]; exact (of_decide_eq_true (by kernel_rfl))) hgd ?_
        have e1 : b.eval (.tmp 43) = .int .i64 e0 := hv 11 43 (by kernel_rfl) (by kernel_rfl) (of_decide_eq_true (by kernel_rfl))
        have e2 : b.eval (.tmp 44) = .int .i64 e0 := hv 12 44 (by kernel_rfl) (by kernel_rfl) (of_decide_eq_true (by kernel_rfl))
        exact wp_val (.bool true) (by simp only [execOp, e1, e2]; simp [go_sem]) (hK _ _ rfl (Below.refl _ _))
      · obtain rfl : (⟨some 46, .pick (Operand.tmp 42) (Operand.tmp 45) (Operand.const (Value.bool false)), _, _, _, _⟩ : Oper) = o := Option.some.inj ho
        refine ask_plain rfl ?_
        have e1 : b.eval (.tmp 42) = .bool true := hv 10 42 (by kernel_rfl) (by kernel_rfl) (of_decide_eq_true (by kernel_rfl))
        have e2 : b.eval (.tmp 45) = .bool true := hv 13 45 (by kernel_rfl) (by kernel_rfl) (of_decide_eq_true (by kernel_rfl))
        exact wp_val (.bool true) (by simp only [execOp, e1, e2]; rfl) (hK _ _ rfl (Below.refl _ _))
      · obtain rfl : (⟨some 47, .move (Operand.tmp 46), _, _, _, _⟩ : Oper) = o := Option.some.inj ho
        refine ask_plain rfl ?_
        have e : b.eval (.tmp 46) = .bool true := hv 14 46 (by kernel_rfl) (by kernel_rfl) (of_decide_eq_true (by kernel_rfl))
        exact wp_val _ rfl (hK _ _ e (Below.refl _ _))
      · obtain rfl : (⟨some 48, .load 25 (Operand.tmp 9), _, _, _, _⟩ : Oper) = o := Option.some.inj ho
        have hgd := hv 15 47 (by kernel_rfl) (by kernel_rfl) (of_decide_eq_true (by kernel_rfl))
        refine ask_yes 15 47 true rfl (by kernel_rfl) (by rw [hsize]; exact (of_decide_eq_true (by kernel_rfl))) hgd ?_
        have e1 : b.eval (.tmp 9) = .pointer (some ⟨g9, 0, none⟩) := (hstood 9 (by kernel_rfl)).trans rfl
        exact wp_load_cells 25 (.tmp 9) rfl ⟨g9, 0, none⟩ e1 (V8 D) (.array 32 5) rfl (fun j v hj => by rw [add_zero_off, Joins.cell_of_block ((hbel.block _ (Array.getElem?_eq_some_iff.1 Q9.out).1).trans Q9.out)]; exact hj) Try.underlying25 HSD.out (hK _ _ rfl (Below.refl _ _))
      · obtain rfl : (⟨some 49, .load 25 (Operand.tmp 2), _, _, _, _⟩ : Oper) = o := Option.some.inj ho
        have hgd := hv 15 47 (by kernel_rfl) (by kernel_rfl) (of_decide_eq_true (by kernel_rfl))
        refine ask_yes 15 47 true rfl (by kernel_rfl) (by rw [hsize]; exact (of_decide_eq_true (by kernel_rfl))) hgd ?_
        have e1 : b.eval (.tmp 2) = .pointer (some ⟨g2, 0, none⟩) := (hstood 2 (by kernel_rfl)).trans rfl
        exact wp_load_cells 25 (.tmp 2) rfl ⟨g2, 0, none⟩ e1 (V8 D) (.array 32 5) rfl (fun j v hj => by rw [add_zero_off, Joins.cell_of_block ((hbel.block _ (Array.getElem?_eq_some_iff.1 Q2.out).1).trans Q2.out)]; exact hj) Try.underlying25 HSD.out (hK _ _ rfl (Below.refl _ _))
      · obtain rfl : (⟨some 50, .binOp BinOp.eql 25 (Operand.tmp 48) (Operand.tmp 49) 25, _, _, _, _⟩ : Oper) = o := Option.some.inj ho
        have hgd := hv 15 47 (by kernel_rfl) (by kernel_rfl) (of_decide_eq_true (by kernel_rfl))
        refine ask_yes 15 47 true rfl (by kernel_rfl) (by rw [hsize]; exact (of_decide_eq_true (by kernel_rfl))) hgd ?_
        have e1 : b.eval (.tmp 48) = .agg (V8 D) := hv 16 48 (by kernel_rfl) (by kernel_rfl) (of_decide_eq_true (by kernel_rfl))
        have e2 : b.eval (.tmp 49) = .agg (V8 D) := hv 17 49 (by kernel_rfl) (by kernel_rfl) (of_decide_eq_true (by kernel_rfl))
        exact wp_val (.bool true) (by simp only [execOp, e1, e2]; simp [go_sem, HEQD.out]) (hK _ _ rfl (Below.refl _ _))
      · obtain rfl : (⟨some 51, .pick (Operand.tmp 47) (Operand.tmp 50) (Operand.const (Value.bool false)), _, _, _, _⟩ : Oper) = o := Option.some.inj ho
        refine ask_plain rfl ?_
        have e1 : b.eval (.tmp 47) = .bool true := hv 15 47 (by kernel_rfl) (by kernel_rfl) (of_decide_eq_true (by kernel_rfl))
        have e2 : b.eval (.tmp 50) = .bool true := hv 18 50 (by kernel_rfl) (by kernel_rfl) (of_decide_eq_true (by kernel_rfl))
        exact wp_val (.bool true) (by simp only [execOp, e1, e2]; rfl) (hK _ _ rfl (Below.refl _ _))
      · obtain rfl : (⟨some 52, .move (Operand.tmp 51), _, _, _, _⟩ : Oper) = o := Option.some.inj ho
        refine ask_plain rfl ?_
        have e : b.eval (.tmp 51) = .bool true := hv 19 51 (by kernel_rfl) (by kernel_rfl) (of_decide_eq_true (by kernel_rfl))
        exact wp_val _ rfl (hK _ _ e (Below.refl _ _))
      · obtain rfl : (⟨some 53, .move (Operand.tmp 10), _, _, _, _⟩ : Oper) = o := Option.some.inj ho
        have hgd := hv 20 52 (by kernel_rfl) (by kernel_rfl) (of_decide_eq_true (by kernel_rfl))
        refine ask_yes 20 52 true rfl (by kernel_rfl) (by rw [hsize]; exact (of_decide_eq_true (by kernel_rfl))) hgd ?_
        have e : b.eval (.tmp 10) = .int .i64 0 := (hstood 10 (by kernel_rfl)).trans rfl
        exact wp_val _ rfl (hK _ _ e (Below.refl _ _))
      · obtain rfl : (⟨some 54, .binOp BinOp.eql 44 (Operand.tmp 53) (Operand.const (Value.int IntKind.i64 0)) 44, _, _, _, _⟩ : Oper) = o := Option.some.inj ho
        have hgd := hv 20 52 (by kernel_rfl) (by kernel_rfl) (of_decide_eq_true (by kernel_rfl))
        refine ask_yes 20 52 true rfl (by kernel_rfl) (by rw [hsize]; exact (of_decide_eq_true (by kernel_rfl))) hgd ?_
        have e : b.eval (.tmp 53) = .int .i64 0 := hv 21 53 (by kernel_rfl) (by kernel_rfl) (of_decide_eq_true (by kernel_rfl))
        exact wp_val (.bool true) (by simp only [execOp, e]; rfl) (hK _ _ rfl (Below.refl _ _))
      · obtain rfl : (⟨some 55, .pick (Operand.tmp 52) (Operand.tmp 54) (Operand.const (Value.bool false)), _, _, _, _⟩ : Oper) = o := Option.some.inj ho
        refine ask_plain rfl ?_
        have e1 : b.eval (.tmp 52) = .bool true := hv 20 52 (by kernel_rfl) (by kernel_rfl) (of_decide_eq_true (by kernel_rfl))
        have e2 : b.eval (.tmp 54) = .bool true := hv 22 54 (by kernel_rfl) (by kernel_rfl) (of_decide_eq_true (by kernel_rfl))
        exact wp_val (.bool true) (by simp only [execOp, e1, e2]; rfl) (hK _ _ rfl (Below.refl _ _))
      · obtain rfl : (⟨some 56, .move (Operand.tmp 55), _, _, _, _⟩ : Oper) = o := Option.some.inj ho
        refine ask_plain rfl ?_
        have e : b.eval (.tmp 55) = .bool true := hv 23 55 (by kernel_rfl) (by kernel_rfl) (of_decide_eq_true (by kernel_rfl))
        exact wp_val _ rfl (hK _ _ e (Below.refl _ _))
      · obtain rfl : (⟨some 57, .call { callee := (Callee.value (Operand.func 27)), args := #[], argTypes := #[] }, _, _, _, _⟩ : Oper) = o := Option.some.inj ho
        have hgd := hv 24 56 (by kernel_rfl) (by kernel_rfl) (of_decide_eq_true (by kernel_rfl))
        refine ask_yes 24 56 true rfl (by kernel_rfl) (by rw [hsize]; exact (of_decide_eq_true (by kernel_rfl))) hgd ?_
        refine wp_call_fn 27 #[] #[] rfl Try.f27 _ Try.func27 (by kernel_rfl) rfl #[] (by simp) ((alive_any w1).mono ?_)
        rintro e w2 ⟨rfl, hb2⟩
        exact ⟨_, rfl, hK _ _ rfl hb2⟩
      · obtain rfl : (⟨some 58, .pick (Operand.tmp 56) (Operand.tmp 57) (Operand.const (Value.bool false)), _, _, _, _⟩ : Oper) = o := Option.some.inj ho
        refine ask_plain rfl ?_
        have e1 : b.eval (.tmp 56) = .bool true := hv 24 56 (by kernel_rfl) (by kernel_rfl) (of_decide_eq_true (by kernel_rfl))
        have e2 : b.eval (.tmp 57) = .bool true := hv 25 57 (by kernel_rfl) (by kernel_rfl) (of_decide_eq_true (by kernel_rfl))
        exact wp_val (.bool true) (by simp only [execOp, e1, e2]; rfl) (hK _ _ rfl (Below.refl _ _))
    · intro vs w9 hp hb9
      have HB9 := Lib.hid (HB8.out.trans (hb9.mono HB8.out.size))
      have v26 : vs 26 = .bool true := hp 26 (by decide)
      change wpList _ _ _ [_] _ _
      simp only [putD, Act.put, List.setIfInBounds_toArray, List.set_cons_zero, List.set_cons_succ, v26]
      generalize vs 0 = y0, vs 1 = y1, vs 2 = y2, vs 3 = y3
      clear hp hb9
      go_wp2
      go_ret
      exact ⟨rfl, HB9.out⟩
end Go.Proofs.Ytjaakhjfpigdfaa
