import Derived.Test.YtjaakhjfpigdfaaC4
/-! mac.Sum. -/
namespace Go.Proofs.Ytjaakhjfpigdfaa
open Go.RowKit
set_option linter.unusedVariables false
set_option linter.unusedSimpArgs false
def pdMS (KB D Z : By) (g6 : Nat) : Nat → Value → World → Prop
  | 0 => fun v w => v = .agg (V8 KB)
  | 1 => fun v w => EqN w (xorB KB 0x5c#8) v
  | 2 => fun v w => v = .slice (some ⟨g6, 0, none⟩) 32 32
  | 3 => fun v w => ∃ g, v = .slice (some ⟨g, 0, none⟩) 2 2 ∧ RdN w (some ⟨g, 0, none⟩) [xorB KB 0x5c#8, D]
  | 4 => fun v w => v = .agg (V8 Z)
  | _ => fun _ _ => True
theorem pdMS_mono (KB D Z : By) (g6 : Nat) : ∀ q0 v w w', pdMS KB D Z g6 q0 v w → Below w.heap.size w w' → pdMS KB D Z g6 q0 v w'
  | 0, _, _, _, h, _ => h
  | 1, _, _, _, h, hb => EqN.below h hb
  | 2, _, _, _, h, _ => h
  | 3, _, _, _, h, hb => by obtain ⟨g, e, h2⟩ := h; exact ⟨g, e, h2.below hb⟩
  | 4, _, _, _, h, _ => h
  | _ + 5, _, _, _, _, _ => trivial
set_option maxRecDepth 100000 in
set_option maxHeartbeats 4000000 in
theorem msum_any (k : By) (kv : Value) (ps : List By) (ad : Addr) (c : Nat) (w : World) (hk : EqN w k kv) (hkl : k.length ≤ 1000000) (hr : RdN w (some ad) ps) (hc : ps.length ≤ c) (hpl : ps.length ≤ 1000) (hfl : ps.flatten.length ≤ 1000000) : Calls Try.prog 46 #[kv, .slice (some ad) ps.length c] w fun e w' => e = .returned (.agg (V8 (macL k ps.flatten))) ∧ Below w.heap.size w w' := by
  obtain ⟨i35, hi35', hz35', hs35', hb35⟩ := info_parts info35
  have HI35 := Lib.hid hi35'
  have HZ35 := Lib.hid hz35'
  have HS35 := Lib.hid hs35'
  have hz := zeros64b
  have hzs : (V8 (List.replicate 64 0)).size = 64 := by rw [V8_size]; rfl
  obtain ⟨Zb, hZb⟩ : ∃ Z, V8 (List.replicate 64 0) = Z := ⟨_, rfl⟩
  rw [hZb] at hz hzs
  have HZ := Lib.hid hz
  have HZS := Lib.hid hzs
  have hz32 := zeros32
  have hzs32 : (V8 (List.replicate 32 0)).size = 32 := by rw [V8_size]; rfl
  obtain ⟨Zr, hZr⟩ : ∃ Z, V8 (List.replicate 32 0) = Z := ⟨_, rfl⟩
  rw [hZr] at hz32 hzs32
  have HZ32 := Lib.hid hz32
  have HZS32 := Lib.hid hzs32
  clear hz hzs hZb hz32 hzs32 hZr hi35' hz35' hs35' hb35
  have hml := macL_len k ps.flatten
  have hkb := keyB_len k
  obtain ⟨Z, hZ2⟩ : ∃ Z, macL k ps.flatten = Z := ⟨_, rfl⟩
  rw [hZ2] at hml ⊢
  have HSZ := Lib.hid (show (Try.prog.info? 25).map (·.size) = some (V8 Z).size by rw [V8_size, hml]; kernel_rfl)
  have HZZ0 := Lib.hid (show Zr.size = (V8 Z).size by rw [V8_size, hml]; exact HZS32.out)
  have hz3 : sumL (xorB (keyB k) 0x5c#8 ++ sumL (xorB (keyB k) 0x36#8 ++ ps.flatten)) = Z := hZ2
  have OF := Lib.hid (fun (w' : World) (hb : Below w.heap.size w w') => of_any k kv w' (hk.below hb) hkl)
  obtain ⟨KB, hK⟩ : ∃ KB, keyB k = KB := ⟨_, rfl⟩
  rw [hK] at hz3 hkb OF
  have hxl : (xorB KB 0x36#8).length = 64 := by rw [xorB_len]; exact hkb
  have hDl := sumL_len (xorB KB 0x36#8 ++ ps.flatten)
  obtain ⟨D, hD⟩ : ∃ D, sumL (xorB KB 0x36#8 ++ ps.flatten) = D := ⟨_, rfl⟩
  rw [hD] at hz3 hDl
  have HD := Lib.hid hD
  have HZZ := Lib.hid hz3
  have HKL := Lib.hid hkb
  have HDL := Lib.hid hDl
  have HXL := Lib.hid hxl
  have HFL := Lib.hid (show [xorB KB 0x5c#8, D].flatten = xorB KB 0x5c#8 ++ D by simp)
  have HFM := Lib.hid (show (xorB KB 0x5c#8 ++ D).length ≤ 140737488355000 by rw [List.length_append, xorB_len, hkb, hDl]; decide)
  have HSK := Lib.hid (show (Try.prog.info? 74).map (·.size) = some (V8 KB).size by rw [V8_size, hkb]; kernel_rfl)
  have HZK := Lib.hid (show Zb.size = (V8 KB).size by rw [V8_size, hkb]; exact HZS.out)
  have HSD := Lib.hid (show (Try.prog.info? 25).map (·.size) = some (V8 D).size by rw [V8_size, hDl]; kernel_rfl)
  have HZD := Lib.hid (show Zr.size = (V8 D).size by rw [V8_size, hDl]; exact HZS32.out)
  have HR := Lib.hid hr
  obtain ⟨n, hn⟩ : ∃ n, ps.length = n := ⟨_, rfl⟩
  rw [hn] at hc hpl ⊢
  have HN := Lib.hid hn
  have HFLL := Lib.hid hfl
  clear hK hz3 hkb hxl hDl hD hZ2 hml hr hfl hn hkl hk
  have z4 := Lib.hid (heap_new w (.cells Zr 25) w.heap.size rfl)
  have b4 := Lib.hid (below_alloc1 w (.cells Zr 25))
  go_enter Try.func46, Try.ntmps46
  go_upto_region 1 with (fail)
  rw [← HZ32.out]
  obtain ⟨W4, hW4⟩ : ∃ W, w.alloc (.cells Zr 25) = W := ⟨_, rfl⟩
  rw [hW4] at z4 b4 ⊢
  clear hW4
  go_wp2_with fail
  refine (OF.out _ b4.out).mono ?_
  rintro e w5 ⟨rfl, hb5⟩
  have Z5 := Lib.hid (keepH hb5 z4.out)
  have B5 := Lib.hid (b4.out.trans (hb5.mono b4.out.size))
  clear z4 b4 hb5 OF
  go_upto_region 2 with (first | ((with_reducible show wpList _ _ _ (⟨none, .store 74 (.tmp 5) (.tmp 8), _, _, _, _⟩ :: _) _ _); rw [← HZ.out]; refine wpList_store_row rfl 74 (.tmp 5) (.tmp 8) rfl w5.heap.size (V8 KB) rfl rfl 74 _ (heap_new _ _ _ rfl) HSK.out HZK.out (V8_one _) ?_) | fail)
  generalize hW6 : (World.setRow _ _ _) = W6
  obtain ⟨g5, hg5⟩ : ∃ g, w5.heap.size = g := ⟨_, rfl⟩
  have b6 : Below w5.heap.size w5 W6 := by rw [← hW6]; exact below_setRow _ _ ((Below.refl _ _).alloc (Nat.le_refl _) _) (Nat.le_refl _)
  have K6 := Lib.hid (show W6.heap[g5]? = some (.cells (V8 KB) 74 (0, 0)) by rw [← hW6, ← hg5]; exact setRow_heap _ _ _ _ _ _ (heap_new _ _ _ rfl))
  have Z6 := Lib.hid (keepH b6 Z5.out)
  have B6 := Lib.hid (B5.out.trans (b6.mono B5.out.size))
  have WI := Lib.hid (show Calls Try.prog 87 #[.agg (V8 KB), .int .u8 54] W6 fun e w' => ∃ v, e = .returned v ∧ EqN w' (xorB KB 0x36#8) v ∧ Below W6.heap.size W6 w' from with_any KB HKL.out 0x36#8 W6)
  rw [hg5]
  clear hW6 hg5 b6 Z5 B5
  go_wp2_with (first | ((with_reducible show wpList _ _ _ (⟨some 9, .load 74 (.tmp 5), _, _, _, _⟩ :: _) _ _); refine wpList_load_row rfl 74 (.tmp 5) rfl g5 rfl 74 (V8 KB) _ K6.out Try.underlying74 rfl HSK.out ?_) | fail)
  refine WI.out.mono ?_
  rintro e w7 ⟨v10, rfl, hE10, hb7⟩
  have K7 := Lib.hid (keepH hb7 K6.out)
  have Z7 := Lib.hid (keepH hb7 Z6.out)
  have B7 := Lib.hid (B6.out.trans (hb7.mono B6.out.size))
  have HE10 := Lib.hid hE10
  obtain ⟨A10, n10, c10, hv10⟩ : ∃ a n c, v10 = .slice a n c := by obtain ⟨a, c, e, _⟩ := hE10; exact ⟨a, _, c, e⟩
  have O8 := Lib.hid (show OwnP w7 (w7.alloc (.cells #[v10] 35)) w7.heap.size (.slice (some ⟨w7.heap.size, 0, none⟩) 1 1) [xorB KB 0x36#8] from OwnP.one (heap_new _ _ _ rfl) (Nat.le_refl _) hE10)
  have B8 := Lib.hid (show Below w.heap.size w (w7.alloc (.cells #[v10] 35)) from B7.out.alloc B7.out.size _)
  have HS8 := Lib.hid (show w7.heap.size ≤ (w7.alloc (.cells #[v10] 35)).heap.size from by simp)
  have HR7 := Lib.hid (show RdN w7 (some ad) ps from HR.out.below B7.out)
  have HB78 := Lib.hid (show Below w7.heap.size w7 (w7.alloc (.cells #[v10] 35)) from below_alloc1 _ _)
  subst hv10
  clear WI hb7 K6 Z6 B6 hE10
  obtain ⟨W8, hW8⟩ : ∃ W, w7.alloc (.cells #[.slice A10 n10 c10] 35) = W := ⟨_, rfl⟩
  rw [hW8] at O8 B8 HS8 HB78
  have HW8 := Lib.hid hW8
  clear hW8
  have SM := Lib.hid (show ∀ w9 A c, RdN w9 A (xorB KB 0x36#8 :: ps) → (xorB KB 0x36#8 :: ps).length ≤ c → Calls Try.prog 25 #[.slice A (xorB KB 0x36#8 :: ps).length c] w9 fun e w' => e = .returned (.agg (V8 D)) ∧ Below w9.heap.size w9 w' from fun w9 A c h1 h2 => by
    have h := sum_any (xorB KB 0x36#8 :: ps) A c w9 h1 h2 (by rw [List.flatten_cons, List.length_append, HXL.out]; have := HFLL.out; omega)
    rw [List.flatten_cons, HD.out] at h
    exact h)
  go_wp2_with (first | (at_builtin; rw [HW8.out]; refine wpList_append_rows rfl (.tmp 11) (.tmp 12) rfl w7.heap.size _ [xorB KB 0x36#8] rfl O8.out ad c ps (by rw [HN.out]; rfl) HR7.out HB78.out (by rw [HN.out]; exact hc) (by rw [HN.out]; simp; omega) HS8.out ?_; intro v13 w9 hown hb9; have HO9 := Lib.hid hown; have B79 := Lib.hid (HB78.out.trans hb9); clear hown hb9) | fail)
  obtain ⟨A13, c13, rfl, hc13, hr13⟩ := HO9.out.rd B79.out
  have hcall := SM.out w9 A13 c13 hr13 hc13
  have B9 := Lib.hid (B7.out.trans (B79.out.mono B7.out.size))
  have K9 := Lib.hid (keepH B79.out K7.out)
  have Z9 := Lib.hid (keepH B79.out Z7.out)
  clear hr13 hc13 HO9 SM O8 HW8 HS8 B8 HB78 HR7 HE10 K7 Z7 B7 B79
  refine hcall.mono ?_
  rintro e w10 ⟨rfl, hb10⟩
  have K10 := Lib.hid (keepH hb10 K9.out)
  have Z10 := Lib.hid (keepH hb10 Z9.out)
  have B10 := Lib.hid (B9.out.trans (hb10.mono B9.out.size))
  clear hcall hb10 K9 Z9 B9
  go_upto_region 3 with (first | ((with_reducible show wpList _ _ _ (⟨none, .store 25 (.tmp 6) (.tmp 14), _, _, _, _⟩ :: _) _ _); rw [← HZ32.out]; refine wpList_store_row rfl 25 (.tmp 6) (.tmp 14) rfl w10.heap.size (V8 D) rfl rfl 25 _ (heap_new _ _ _ rfl) HSD.out HZD.out (V8_one _) ?_) | fail)
  generalize hW11 : (World.setRow _ _ _) = W11
  obtain ⟨g6, hg6⟩ : ∃ g, w10.heap.size = g := ⟨_, rfl⟩
  have b11 : Below w10.heap.size w10 W11 := by rw [← hW11]; exact below_setRow _ _ ((Below.refl _ _).alloc (Nat.le_refl _) _) (Nat.le_refl _)
  have D6 := Lib.hid (EqN.arr (show W11.heap[g6]? = some (.cells (V8 D) 25 (0, 0)) by rw [← hW11, ← hg6]; exact setRow_heap _ _ _ _ _ _ (heap_new _ _ _ rfl)) 32 HDL.out (by decide))
  have K5 := Lib.hid (keepH b11 K10.out)
  have Z11 := Lib.hid (keepH b11 Z10.out)
  have B11 := Lib.hid (B10.out.trans (b11.mono B10.out.size))
  have hi35 := HI35.out
  have hz35 := HZ35.out
  have hs35 := HS35.out
  rw [hg6]
  clear hW11 hg6 b11 K10 Z10 B10
  refine wp_region_mono (w0 := _) 5 [some 15, some 16, some 17, some 18, some 19] (by kernel_rfl) (by kernel_rfl) (by kernel_rfl) (by kernel_rfl) (of_decide_eq_true (by kernel_rfl)) (by kernel_rfl) (pdMS KB D Z g6) ?_ ?_ ?_
  · exact pdMS_mono KB D Z g6
  · intro i hi o w1 b ho hbel hv hstood hsize K hK
    have hc : i = 0 ∨ i = 1 ∨ i = 2 ∨ i = 3 ∨ i = 4 := by omega
    rcases hc with rfl | rfl | rfl | rfl | rfl
    · obtain rfl : (⟨some 15, .load 74 (Operand.tmp 5), _, _, _, _⟩ : Oper) = o := Option.some.inj ho
      refine ask_plain rfl ?_
      have e1 : b.eval (.tmp 5) = .pointer (some ⟨g5, 0, none⟩) := (hstood 5 (by kernel_rfl)).trans rfl
      exact wp_load_cells 74 (.tmp 5) rfl ⟨g5, 0, none⟩ e1 (V8 KB) _ rfl (fun j v hj => by rw [add_zero_off, Joins.cell_of_block ((hbel.block _ (Array.getElem?_eq_some_iff.1 K5.out).1).trans K5.out)]; exact hj) Try.underlying74 HSK.out (hK _ _ rfl (Below.refl _ _))
    · obtain rfl : (⟨some 16, .call { callee := (Callee.value (Operand.func 87)), args := #[(Operand.tmp 15), (Operand.const (Value.int IntKind.u8 92))], argTypes := #[74, 5] }, _, _, _, _⟩ : Oper) = o := Option.some.inj ho
      refine ask_plain rfl ?_
      have e1 : b.eval (.tmp 15) = .agg (V8 KB) := hv 0 15 (by kernel_rfl) (by kernel_rfl) (of_decide_eq_true (by kernel_rfl))
      refine wp_call_fn 87 _ #[74, 5] rfl Try.f87 _ Try.func87 (by kernel_rfl) rfl #[.agg (V8 KB), .int .u8 92] (by simp [e1]; try rfl) ((with_any KB HKL.out 0x5c#8 w1).mono ?_)
      rintro e w2 ⟨v, rfl, hE, hb2⟩
      exact ⟨_, rfl, hK _ _ hE hb2⟩
    · obtain rfl : (⟨some 17, .slice 25 (Operand.tmp 6) none none none, _, _, _, _⟩ : Oper) = o := Option.some.inj ho
      refine ask_plain rfl ?_
      have e : b.eval (.tmp 6) = .pointer (some ⟨g6, 0, none⟩) := (hstood 6 (by kernel_rfl)).trans rfl
      have hf := slice25 ⟨g6, 0, none⟩ w1
      exact wp_val (.slice (some ⟨g6, 0, none⟩) 32 32) (by simp only [execOp, e, hf, Option.map_none, Sem.run_bind, Result.andThen]; rfl) (hK _ _ rfl (Below.refl _ _))
    · obtain rfl : (⟨some 18, .buildSlice 22 2 #[(0, (Operand.tmp 16)), (1, (Operand.tmp 17))], _, _, _, _⟩ : Oper) = o := Option.some.inj ho
      refine ask_plain rfl ?_
      have hE1 : EqN w1 (xorB KB 0x5c#8) (b.eval (.tmp 16)) := hv 1 16 (by kernel_rfl) (by kernel_rfl) (of_decide_eq_true (by kernel_rfl))
      have e2 : b.eval (.tmp 17) = .slice (some ⟨g6, 0, none⟩) 32 32 := hv 2 17 (by kernel_rfl) (by kernel_rfl) (of_decide_eq_true (by kernel_rfl))
      obtain ⟨A1, c1, ev1, _⟩ := id hE1
      refine wp_buildSlice 22 35 2 _ rfl #[b.eval (.tmp 16), .slice (some ⟨g6, 0, none⟩) 32 32] i35 (.slice none 0 0) Try.underlying22 hi35 hz35 (by rw [hs35]; decide) (by rw [hs35]; decide) (by rw [hs35]; simp only [List.map_toArray, List.map_cons, List.map_nil, e2, ev1]; kernel_rfl) (hK _ _ ⟨_, rfl, RdN.new2 w1 (xorB KB 0x5c#8) D _ _ 35 (0, 0) _ rfl hE1 (D6.out.below hbel)⟩ (below_alloc1 _ _))
    · obtain rfl : (⟨some 19, .call { callee := (Callee.value (Operand.func 25)), args := #[(Operand.tmp 18)], argTypes := #[22] }, _, _, _, _⟩ : Oper) = o := Option.some.inj ho
      refine ask_plain rfl ?_
      obtain ⟨gg, e1, hr2⟩ : ∃ g, b.eval (.tmp 18) = .slice (some ⟨g, 0, none⟩) 2 2 ∧ RdN w1 (some ⟨g, 0, none⟩) [xorB KB 0x5c#8, D] := hv 3 18 (by kernel_rfl) (by kernel_rfl) (of_decide_eq_true (by kernel_rfl))
      have hcall := sum_any [xorB KB 0x5c#8, D] (some ⟨gg, 0, none⟩) 2 w1 hr2 (by simp) (by rw [HFL.out]; exact HFM.out)
      rw [HFL.out, HZZ.out] at hcall
      refine wp_call_fn 25 #[.tmp 18] #[22] rfl Try.f25 _ Try.func25 (by kernel_rfl) rfl #[.slice (some ⟨gg, 0, none⟩) 2 2] (by simp [e1]) (hcall.mono ?_)
      rintro e w2 ⟨rfl, hb2⟩
      exact ⟨_, rfl, hK _ _ rfl hb2⟩
  · intro vs w12 hp hb12
    have v0 : vs 0 = .agg (V8 KB) := hp 0 (by decide)
    have v2 : vs 2 = .slice (some ⟨g6, 0, none⟩) 32 32 := hp 2 (by decide)
    have v4 : vs 4 = .agg (V8 Z) := hp 4 (by decide)
    have Z12 := Lib.hid (keepH hb12 Z11.out)
    have B12 := Lib.hid (B11.out.trans (hb12.mono B11.out.size))
    change wpList _ _ _ [_] _ _
    simp only [putD, Act.put, List.setIfInBounds_toArray, List.set_cons_zero, List.set_cons_succ, v0, v2, v4]
    generalize vs 1 = x1, vs 3 = x3
    clear v0 v2 v4 hp hb12 Z11 B11
    go_wp2_with (first | ((with_reducible show wpList _ _ _ (⟨none, .store 25 (.tmp 4) (.tmp 19), _, _, _, _⟩ :: _) _ _); refine wpList_store_row rfl 25 (.tmp 4) (.tmp 19) rfl w.heap.size (V8 Z) rfl rfl 25 _ Z12.out HSZ.out HZZ0.out (V8_one _) ?_) | fail)
    have gz := setRow_heap w12 w.heap.size _ (V8 Z) _ _ Z12.out
    have hrv := run_loadVar_row (P := Try.prog) (w12.setRow w.heap.size (V8 Z)) w.heap.size 25 25 (V8 Z) (0, 0) _ gz Try.underlying25 rfl HSZ.out
    exact bodyPost_ret (v := .agg (V8 Z)) (by simp [results, Try.results46, asAddr, hrv, Act.put]) rfl ⟨rfl, below_setRow _ _ B12.out (Nat.le_refl _)⟩
end Go.Proofs.Ytjaakhjfpigdfaa
