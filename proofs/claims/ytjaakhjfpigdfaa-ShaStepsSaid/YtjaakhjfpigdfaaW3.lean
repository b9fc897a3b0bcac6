import Derived.Test.YtjaakhjfpigdfaaR3
/-! ShaSteps. -/
namespace Go.Proofs.Ytjaakhjfpigdfaa
open Go.RowKit
set_option linter.unusedVariables false
set_option linter.unusedSimpArgs false
def pdST (s : List W32) (l : By) (X : List W32) (n : Nat) : Nat → Value → World → Prop
  | 0 => fun v w => v = .agg (U s)
  | 1 => fun v w => v = .agg (V8 l)
  | 2 => fun v w => v = .agg (U X)
  | 3 => fun v w => v = .agg (U s)
  | 4 => fun v w => v = .agg (V8 l)
  | 5 => fun v w => v = .agg (U X)
  | 6 => fun v w => v = .bool true
  | 7 => fun v w => v = .bool true
  | 8 => fun v w => v = .int .u64 (n : Int)
  | 9 => fun v w => EqN w (padL n) v
  | 10 => fun v w => v = .string (strV (padL n))
  | 11 => fun v w => v = .int .u64 (n : Int)
  | 12 => fun v w => EqN w (padL n) v
  | 13 => fun v w => v = .string (strV (padL n))
  | 14 => fun v w => v = .bool true
  | 15 => fun v w => v = .bool true
  | 16 => fun v w => v = .bool true
  | 17 => fun v w => v = .agg (U startL)
  | 18 => fun v w => v = .agg (U startL)
  | 19 => fun v w => v = .bool true
  | 20 => fun v w => v = .bool true
  | 21 => fun v w => v = .bool true
  | 22 => fun v w => v = .bool true
  | 23 => fun v w => v = .bool true
  | _ => fun _ _ => True
theorem pdST_mono (s : List W32) (l : By) (X : List W32) (n : Nat) : ∀ k v w w', pdST s l X n k v w → Below w.heap.size w w' → pdST s l X n k v w'
  | 0, _, _, _, h, _ => h
  | 1, _, _, _, h, _ => h
  | 2, _, _, _, h, _ => h
  | 3, _, _, _, h, _ => h
  | 4, _, _, _, h, _ => h
  | 5, _, _, _, h, _ => h
  | 6, _, _, _, h, _ => h
  | 7, _, _, _, h, _ => h
  | 8, _, _, _, h, _ => h
  | 9, _, _, _, h, hb => EqN.below h hb
  | 10, _, _, _, h, _ => h
  | 11, _, _, _, h, _ => h
  | 12, _, _, _, h, hb => EqN.below h hb
  | 13, _, _, _, h, _ => h
  | 14, _, _, _, h, _ => h
  | 15, _, _, _, h, _ => h
  | 16, _, _, _, h, _ => h
  | 17, _, _, _, h, _ => h
  | 18, _, _, _, h, _ => h
  | 19, _, _, _, h, _ => h
  | 20, _, _, _, h, _ => h
  | 21, _, _, _, h, _ => h
  | 22, _, _, _, h, _ => h
  | 23, _, _, _, h, _ => h
  | _ + 24, _, _, _, _, _ => trivial
set_option maxRecDepth 100000 in
set_option maxHeartbeats 4000000 in
theorem shaSteps_true (s : List W32) (l : By) (x : BitVec 64) (w : World) (hs : s.length = 8) (hl : l.length = 64) : Calls Try.prog 4 #[.agg (U s), .agg (V8 l), .int .u64 (x.toNat : Int)] w fun e w' => e = .returned (.bool true) ∧ Below w.heap.size w w' := by
  have hn : x.toNat < 18446744073709551616 := x.isLt
  obtain ⟨n, hxn⟩ : ∃ m, x.toNat = m := ⟨_, rfl⟩
  rw [hxn] at hn ⊢
  clear hxn
  have HN := Lib.hid hn
  clear hn
  have hS : (Try.prog.info? 31).map (·.size) = some (U s).size := by rw [U_size, hs]; kernel_rfl
  have hV : (Try.prog.info? 32).map (·.size) = some (V8 l).size := by rw [V8_size, hl]; kernel_rfl
  obtain ⟨X, hX⟩ : ∃ X, stepL s l = X := ⟨_, rfl⟩
  have hXl := stepL_len s l hs
  rw [hX] at hXl
  have HX := Lib.hid hX
  clear hX
  have hX2 := fun w => eq_st X X hXl hXl w
  have hT2 := fun w => eq_st startL startL startL_len startL_len w
  rw [show (X == X) = true by simp] at hX2
  rw [show (startL == startL) = true by simp] at hT2
  have q0 : ((w.alloc (.cells (U s) 31)).alloc (.cells (V8 l) 32)).heap[w.heap.size]? = some (.cells (U s) 31 (0, 0)) := heap_old _ trivial (heap_new _ _ _ rfl)
  have q1 : ((w.alloc (.cells (U s) 31)).alloc (.cells (V8 l) 32)).heap[w.heap.size + 1]? = some (.cells (V8 l) 32 (0, 0)) := heap_new _ _ _ (by simp)
  have b1 : Below w.heap.size w ((w.alloc (.cells (U s) 31)).alloc (.cells (V8 l) 32)) := (below_alloc1 _ _).alloc (by simp) _
  go_enter Try.func4, Try.ntmps4
  go_upto_region 1 with (fail)
  refine wp_region_mono (w0 := _) 24 [some 7, some 8, some 9, some 10, some 11, some 12, some 13, some 14, some 15, some 16, some 17, some 18, some 19, some 20, some 21, some 22, some 23, some 24, some 25, some 26, some 27, some 28, some 29, some 30] (by kernel_rfl) (by kernel_rfl) (by kernel_rfl) (by kernel_rfl) (of_decide_eq_true (by kernel_rfl)) (by kernel_rfl) (pdST s l X n) ?_ ?_ ?_
  · exact pdST_mono s l X n
  · intro i hi o w1 b ho hbel hv hstood hsize K hK
    have hc : i = 0 ∨ i = 1 ∨ i = 2 ∨ i = 3 ∨ i = 4 ∨ i = 5 ∨ i = 6 ∨ i = 7 ∨ i = 8 ∨ i = 9 ∨ i = 10 ∨ i = 11 ∨ i = 12 ∨ i = 13 ∨ i = 14 ∨ i = 15 ∨ i = 16 ∨ i = 17 ∨ i = 18 ∨ i = 19 ∨ i = 20 ∨ i = 21 ∨ i = 22 ∨ i = 23 := by omega
    rcases hc with rfl | rfl | rfl | rfl | rfl | rfl | rfl | rfl | rfl | rfl | rfl | rfl | rfl | rfl | rfl | rfl | rfl | rfl | rfl | rfl | rfl | rfl | rfl | rfl
    · obtain rfl : (⟨some 7, .load 31 (Operand.tmp 3), _, _, _, _⟩ : Oper) = o := Option.some.inj ho
      refine ask_plain rfl ?_
      have e1 : b.eval (.tmp 3) = .pointer (some ⟨w.heap.size, 0, none⟩) := (hstood 3 (by kernel_rfl)).trans rfl
      exact wp_load_cells 31 (.tmp 3) rfl ⟨w.heap.size, 0, none⟩ e1 (U s) (.array 8 30) rfl (fun j v hj => by rw [add_zero_off, Joins.cell_of_block ((hbel.block _ (by simp; omega)).trans q0)]; exact hj) Try.underlying31 hS (hK _ _ rfl (Below.refl _ _))
    · obtain rfl : (⟨some 8, .load 32 (Operand.tmp 4), _, _, _, _⟩ : Oper) = o := Option.some.inj ho
      refine ask_plain rfl ?_
      have e1 : b.eval (.tmp 4) = .pointer (some ⟨w.heap.size + 1, 0, none⟩) := (hstood 4 (by kernel_rfl)).trans rfl
      exact wp_load_cells 32 (.tmp 4) rfl ⟨w.heap.size + 1, 0, none⟩ e1 (V8 l) (.array 64 5) rfl (fun j v hj => by rw [add_zero_off, Joins.cell_of_block ((hbel.block _ (by simp)).trans q1)]; exact hj) Try.underlying32 hV (hK _ _ rfl (Below.refl _ _))
    · obtain rfl : (⟨some 9, .call { callee := (Callee.value (Operand.func 28)), args := #[(Operand.tmp 7), (Operand.tmp 8)], argTypes := #[31, 32] }, _, _, _, _⟩ : Oper) = o := Option.some.inj ho
      refine ask_plain rfl ?_
      have e1 : b.eval (.tmp 7) = .agg (U s) := hv 0 7 (by kernel_rfl) (by kernel_rfl) (of_decide_eq_true (by kernel_rfl))
      have e2 : b.eval (.tmp 8) = .agg (V8 l) := hv 1 8 (by kernel_rfl) (by kernel_rfl) (of_decide_eq_true (by kernel_rfl))
      refine wp_call_fn 28 #[.tmp 7, .tmp 8] #[31, 32] rfl Try.f28 _ Try.func28 (by kernel_rfl) rfl #[.agg (U s), .agg (V8 l)] (by simp [e1, e2]) ((step_any s hs l hl w1).mono ?_)
      rintro e w2 ⟨rfl, hb2⟩
      rw [HX.out]
      exact ⟨_, rfl, hK _ _ rfl hb2⟩
    · obtain rfl : (⟨some 10, .load 31 (Operand.tmp 3), _, _, _, _⟩ : Oper) = o := Option.some.inj ho
      refine ask_plain rfl ?_
      have e1 : b.eval (.tmp 3) = .pointer (some ⟨w.heap.size, 0, none⟩) := (hstood 3 (by kernel_rfl)).trans rfl
      exact wp_load_cells 31 (.tmp 3) rfl ⟨w.heap.size, 0, none⟩ e1 (U s) (.array 8 30) rfl (fun j v hj => by rw [add_zero_off, Joins.cell_of_block ((hbel.block _ (by simp; omega)).trans q0)]; exact hj) Try.underlying31 hS (hK _ _ rfl (Below.refl _ _))
    · obtain rfl : (⟨some 11, .load 32 (Operand.tmp 4), _, _, _, _⟩ : Oper) = o := Option.some.inj ho
      refine ask_plain rfl ?_
      have e1 : b.eval (.tmp 4) = .pointer (some ⟨w.heap.size + 1, 0, none⟩) := (hstood 4 (by kernel_rfl)).trans rfl
      exact wp_load_cells 32 (.tmp 4) rfl ⟨w.heap.size + 1, 0, none⟩ e1 (V8 l) (.array 64 5) rfl (fun j v hj => by rw [add_zero_off, Joins.cell_of_block ((hbel.block _ (by simp)).trans q1)]; exact hj) Try.underlying32 hV (hK _ _ rfl (Below.refl _ _))
    · obtain rfl : (⟨some 12, .call { callee := (Callee.value (Operand.func 29)), args := #[(Operand.tmp 10), (Operand.tmp 11)], argTypes := #[31, 32] }, _, _, _, _⟩ : Oper) = o := Option.some.inj ho
      refine ask_plain rfl ?_
      have e1 : b.eval (.tmp 10) = .agg (U s) := hv 3 10 (by kernel_rfl) (by kernel_rfl) (of_decide_eq_true (by kernel_rfl))
      have e2 : b.eval (.tmp 11) = .agg (V8 l) := hv 4 11 (by kernel_rfl) (by kernel_rfl) (of_decide_eq_true (by kernel_rfl))
      refine wp_call_fn 29 #[.tmp 10, .tmp 11] #[31, 32] rfl Try.f29 _ Try.func29 (by kernel_rfl) rfl #[.agg (U s), .agg (V8 l)] (by simp [e1, e2]) ((rstep_any s hs l hl w1).mono ?_)
      rintro e w2 ⟨rfl, hb2⟩
      rw [HX.out]
      exact ⟨_, rfl, hK _ _ rfl hb2⟩
    · obtain rfl : (⟨some 13, .binOp BinOp.eql 31 (Operand.tmp 9) (Operand.tmp 12) 31, _, _, _, _⟩ : Oper) = o := Option.some.inj ho
      refine ask_plain rfl ?_
      have e1 : b.eval (.tmp 9) = .agg (U X) := hv 2 9 (by kernel_rfl) (by kernel_rfl) (of_decide_eq_true (by kernel_rfl))
      have e2 : b.eval (.tmp 12) = .agg (U X) := hv 5 12 (by kernel_rfl) (by kernel_rfl) (of_decide_eq_true (by kernel_rfl))
      exact wp_val (.bool true) (by simp only [execOp, e1, e2]; simp [go_sem, hX2]) (hK _ _ rfl (Below.refl _ _))
    · obtain rfl : (⟨some 14, .move (Operand.tmp 13), _, _, _, _⟩ : Oper) = o := Option.some.inj ho
      refine ask_plain rfl ?_
      have e1 : b.eval (.tmp 13) = .bool true := hv 6 13 (by kernel_rfl) (by kernel_rfl) (of_decide_eq_true (by kernel_rfl))
      exact wp_val _ rfl (hK _ _ e1 (Below.refl _ _))
    · obtain rfl : (⟨some 15, .move (Operand.tmp 2), _, _, _, _⟩ : Oper) = o := Option.some.inj ho
      have hgd := hv 7 14 (by kernel_rfl) (by kernel_rfl) (of_decide_eq_true (by kernel_rfl))
      refine ask_yes 7 14 true rfl (by kernel_rfl) (by rw [hsize]; exact (of_decide_eq_true (by kernel_rfl))) hgd ?_
      have e1 : b.eval (.tmp 2) = .int .u64 (n : Int) := (hstood 2 (by kernel_rfl)).trans rfl
      exact wp_val _ rfl (hK _ _ e1 (Below.refl _ _))
    · obtain rfl : (⟨some 16, .call { callee := (Callee.value (Operand.func 30)), args := #[(Operand.tmp 15)], argTypes := #[33] }, _, _, _, _⟩ : Oper) = o := Option.some.inj ho
      have hgd := hv 7 14 (by kernel_rfl) (by kernel_rfl) (of_decide_eq_true (by kernel_rfl))
      refine ask_yes 7 14 true rfl (by kernel_rfl) (by rw [hsize]; exact (of_decide_eq_true (by kernel_rfl))) hgd ?_
      have e1 : b.eval (.tmp 15) = .int .u64 (n : Int) := hv 8 15 (by kernel_rfl) (by kernel_rfl) (of_decide_eq_true (by kernel_rfl))
      refine wp_call_fn 30 #[.tmp 15] #[33] rfl Try.f30 _ Try.func30 (by kernel_rfl) rfl #[.int .u64 (n : Int)] (by simp [e1]) ((pad_any n HN.out w1).mono ?_)
      rintro e w2 ⟨v, rfl, hown, hb2⟩
      exact ⟨_, rfl, hK _ _ (EqN.own hown) hb2⟩
    · obtain rfl : (⟨some 17, .convert 35 9 (Operand.tmp 16), _, _, _, _⟩ : Oper) = o := Option.some.inj ho
      have hgd := hv 7 14 (by kernel_rfl) (by kernel_rfl) (of_decide_eq_true (by kernel_rfl))
      refine ask_yes 7 14 true rfl (by kernel_rfl) (by rw [hsize]; exact (of_decide_eq_true (by kernel_rfl))) hgd ?_
      have e1 : EqN w1 (padL n) (b.eval (.tmp 16)) := hv 9 16 (by kernel_rfl) (by kernel_rfl) (of_decide_eq_true (by kernel_rfl))
      have e2 := conv_EqN e1
      exact wp_val (.string (strV (padL n))) (by simp only [execOp, Sem.run_bind, e2, Result.andThen]; rfl) (hK _ _ rfl (Below.refl _ _))
    · obtain rfl : (⟨some 18, .move (Operand.tmp 2), _, _, _, _⟩ : Oper) = o := Option.some.inj ho
      have hgd := hv 7 14 (by kernel_rfl) (by kernel_rfl) (of_decide_eq_true (by kernel_rfl))
      refine ask_yes 7 14 true rfl (by kernel_rfl) (by rw [hsize]; exact (of_decide_eq_true (by kernel_rfl))) hgd ?_
      have e1 : b.eval (.tmp 2) = .int .u64 (n : Int) := (hstood 2 (by kernel_rfl)).trans rfl
      exact wp_val _ rfl (hK _ _ e1 (Below.refl _ _))
    · obtain rfl : (⟨some 19, .call { callee := (Callee.value (Operand.func 31)), args := #[(Operand.tmp 18)], argTypes := #[33] }, _, _, _, _⟩ : Oper) = o := Option.some.inj ho
      have hgd := hv 7 14 (by kernel_rfl) (by kernel_rfl) (of_decide_eq_true (by kernel_rfl))
      refine ask_yes 7 14 true rfl (by kernel_rfl) (by rw [hsize]; exact (of_decide_eq_true (by kernel_rfl))) hgd ?_
      have e1 : b.eval (.tmp 18) = .int .u64 (n : Int) := hv 11 18 (by kernel_rfl) (by kernel_rfl) (of_decide_eq_true (by kernel_rfl))
      refine wp_call_fn 31 #[.tmp 18] #[33] rfl Try.f31 _ Try.func31 (by kernel_rfl) rfl #[.int .u64 (n : Int)] (by simp [e1]) ((rpad_any n HN.out w1).mono ?_)
      rintro e w2 ⟨v, rfl, hown, hb2⟩
      exact ⟨_, rfl, hK _ _ (EqN.own hown) hb2⟩
    · obtain rfl : (⟨some 20, .convert 35 9 (Operand.tmp 19), _, _, _, _⟩ : Oper) = o := Option.some.inj ho
      have hgd := hv 7 14 (by kernel_rfl) (by kernel_rfl) (of_decide_eq_true (by kernel_rfl))
      refine ask_yes 7 14 true rfl (by kernel_rfl) (by rw [hsize]; exact (of_decide_eq_true (by kernel_rfl))) hgd ?_
      have e1 : EqN w1 (padL n) (b.eval (.tmp 19)) := hv 12 19 (by kernel_rfl) (by kernel_rfl) (of_decide_eq_true (by kernel_rfl))
      have e2 := conv_EqN e1
      exact wp_val (.string (strV (padL n))) (by simp only [execOp, Sem.run_bind, e2, Result.andThen]; rfl) (hK _ _ rfl (Below.refl _ _))
    · obtain rfl : (⟨some 21, .binOp BinOp.eql 9 (Operand.tmp 17) (Operand.tmp 20) 9, _, _, _, _⟩ : Oper) = o := Option.some.inj ho
      have hgd := hv 7 14 (by kernel_rfl) (by kernel_rfl) (of_decide_eq_true (by kernel_rfl))
      refine ask_yes 7 14 true rfl (by kernel_rfl) (by rw [hsize]; exact (of_decide_eq_true (by kernel_rfl))) hgd ?_
      have e1 : b.eval (.tmp 17) = .string (strV (padL n)) := hv 10 17 (by kernel_rfl) (by kernel_rfl) (of_decide_eq_true (by kernel_rfl))
      have e2 : b.eval (.tmp 20) = .string (strV (padL n)) := hv 13 20 (by kernel_rfl) (by kernel_rfl) (of_decide_eq_true (by kernel_rfl))
      exact wp_val (.bool true) (by simp only [execOp, e1, e2]; simp [go_sem]) (hK _ _ rfl (Below.refl _ _))
    · obtain rfl : (⟨some 22, .pick (Operand.tmp 14) (Operand.tmp 21) (Operand.const (Value.bool false)), _, _, _, _⟩ : Oper) = o := Option.some.inj ho
      refine ask_plain rfl ?_
      have e1 : b.eval (.tmp 14) = .bool true := hv 7 14 (by kernel_rfl) (by kernel_rfl) (of_decide_eq_true (by kernel_rfl))
      have e2 : b.eval (.tmp 21) = .bool true := hv 14 21 (by kernel_rfl) (by kernel_rfl) (of_decide_eq_true (by kernel_rfl))
      exact wp_val (.bool true) (by simp only [execOp, e1, e2]; rfl) (hK _ _ rfl (Below.refl _ _))
    · obtain rfl : (⟨some 23, .move (Operand.tmp 22), _, _, _, _⟩ : Oper) = o := Option.some.inj ho
      refine ask_plain rfl ?_
      have e1 : b.eval (.tmp 22) = .bool true := hv 15 22 (by kernel_rfl) (by kernel_rfl) (of_decide_eq_true (by kernel_rfl))
      exact wp_val _ rfl (hK _ _ e1 (Below.refl _ _))
    · obtain rfl : (⟨some 24, .call { callee := (Callee.value (Operand.func 32)), args := #[], argTypes := #[] }, _, _, _, _⟩ : Oper) = o := Option.some.inj ho
      have hgd := hv 16 23 (by kernel_rfl) (by kernel_rfl) (of_decide_eq_true (by kernel_rfl))
      refine ask_yes 16 23 true rfl (by kernel_rfl) (by rw [hsize]; exact (of_decide_eq_true (by kernel_rfl))) hgd ?_
      refine wp_call_fn 32 #[] #[] rfl Try.f32 _ Try.func32 (by kernel_rfl) rfl #[] (by simp) ((start_any w1).mono ?_)
      rintro e w2 ⟨rfl, rfl⟩
      exact ⟨_, rfl, hK _ _ rfl (below_alloc1 _ _)⟩
    · obtain rfl : (⟨some 25, .call { callee := (Callee.value (Operand.func 33)), args := #[], argTypes := #[] }, _, _, _, _⟩ : Oper) = o := Option.some.inj ho
      have hgd := hv 16 23 (by kernel_rfl) (by kernel_rfl) (of_decide_eq_true (by kernel_rfl))
      refine ask_yes 16 23 true rfl (by kernel_rfl) (by rw [hsize]; exact (of_decide_eq_true (by kernel_rfl))) hgd ?_
      refine wp_call_fn 33 #[] #[] rfl Try.f33 _ Try.func33 (by kernel_rfl) rfl #[] (by simp) ((rstart_any w1).mono ?_)
      rintro e w2 ⟨rfl, rfl⟩
      exact ⟨_, rfl, hK _ _ rfl (below_alloc1 _ _)⟩
    · obtain rfl : (⟨some 26, .binOp BinOp.eql 31 (Operand.tmp 24) (Operand.tmp 25) 31, _, _, _, _⟩ : Oper) = o := Option.some.inj ho
      have hgd := hv 16 23 (by kernel_rfl) (by kernel_rfl) (of_decide_eq_true (by kernel_rfl))
      refine ask_yes 16 23 true rfl (by kernel_rfl) (by rw [hsize]; exact (of_decide_eq_true (by kernel_rfl))) hgd ?_
      have e1 : b.eval (.tmp 24) = .agg (U startL) := hv 17 24 (by kernel_rfl) (by kernel_rfl) (of_decide_eq_true (by kernel_rfl))
      have e2 : b.eval (.tmp 25) = .agg (U startL) := hv 18 25 (by kernel_rfl) (by kernel_rfl) (of_decide_eq_true (by kernel_rfl))
      exact wp_val (.bool true) (by simp only [execOp, e1, e2]; simp [go_sem, hT2]) (hK _ _ rfl (Below.refl _ _))
    · obtain rfl : (⟨some 27, .pick (Operand.tmp 23) (Operand.tmp 26) (Operand.const (Value.bool false)), _, _, _, _⟩ : Oper) = o := Option.some.inj ho
      refine ask_plain rfl ?_
      have e1 : b.eval (.tmp 23) = .bool true := hv 16 23 (by kernel_rfl) (by kernel_rfl) (of_decide_eq_true (by kernel_rfl))
      have e2 : b.eval (.tmp 26) = .bool true := hv 19 26 (by kernel_rfl) (by kernel_rfl) (of_decide_eq_true (by kernel_rfl))
      exact wp_val (.bool true) (by simp only [execOp, e1, e2]; rfl) (hK _ _ rfl (Below.refl _ _))
    · obtain rfl : (⟨some 28, .move (Operand.tmp 27), _, _, _, _⟩ : Oper) = o := Option.some.inj ho
      refine ask_plain rfl ?_
      have e1 : b.eval (.tmp 27) = .bool true := hv 20 27 (by kernel_rfl) (by kernel_rfl) (of_decide_eq_true (by kernel_rfl))
      exact wp_val _ rfl (hK _ _ e1 (Below.refl _ _))
    · obtain rfl : (⟨some 29, .call { callee := (Callee.value (Operand.func 27)), args := #[], argTypes := #[] }, _, _, _, _⟩ : Oper) = o := Option.some.inj ho
      have hgd := hv 21 28 (by kernel_rfl) (by kernel_rfl) (of_decide_eq_true (by kernel_rfl))
      refine ask_yes 21 28 true rfl (by kernel_rfl) (by rw [hsize]; exact (of_decide_eq_true (by kernel_rfl))) hgd ?_
      refine wp_call_fn 27 #[] #[] rfl Try.f27 _ Try.func27 (by kernel_rfl) rfl #[] (by simp) ((alive_any w1).mono ?_)
      rintro e w2 ⟨rfl, hb2⟩
      exact ⟨_, rfl, hK _ _ rfl hb2⟩
    · obtain rfl : (⟨some 30, .pick (Operand.tmp 28) (Operand.tmp 29) (Operand.const (Value.bool false)), _, _, _, _⟩ : Oper) = o := Option.some.inj ho
      refine ask_plain rfl ?_
      have e1 : b.eval (.tmp 28) = .bool true := hv 21 28 (by kernel_rfl) (by kernel_rfl) (of_decide_eq_true (by kernel_rfl))
      have e2 : b.eval (.tmp 29) = .bool true := hv 22 29 (by kernel_rfl) (by kernel_rfl) (of_decide_eq_true (by kernel_rfl))
      exact wp_val (.bool true) (by simp only [execOp, e1, e2]; rfl) (hK _ _ rfl (Below.refl _ _))
  · intro vs w1 hp hb1
    have HB := Lib.hid (b1.trans (hb1.mono (by simp; omega)))
    have v23 : vs 23 = .bool true := hp 23 (by decide)
    change wpList _ _ _ [_] _ _
    simp only [putD, Act.put, List.setIfInBounds_toArray, List.set_cons_zero, List.set_cons_succ, v23]
    generalize vs 0 = v0, vs 1 = v1
    clear hp hb1
    go_wp2
    go_ret
    exact ⟨rfl, HB.out⟩
end Go.Proofs.Ytjaakhjfpigdfaa
