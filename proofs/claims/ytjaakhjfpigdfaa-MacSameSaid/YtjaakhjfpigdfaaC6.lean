import Derived.Test.YtjaakhjfpigdfaaC5
/-! The document's MAC: Sum. -/
namespace Go.Proofs.Ytjaakhjfpigdfaa
open Go.RowKit
set_option linter.unusedVariables false
set_option linter.unusedSimpArgs false
def pdMR (v5 : Value) (KB D Z : By) (g6 : Nat) : Nat → Value → World → Prop
  | 0 => fun v w => v = v5
  | 1 => fun v w => EqN w (xorB KB 0x5c#8) v
  | 2 => fun v w => v = .slice (some ⟨g6, 0, none⟩) 32 32
  | 3 => fun v w => ∃ g, v = .slice (some ⟨g, 0, none⟩) 2 2 ∧ RdN w (some ⟨g, 0, none⟩) [xorB KB 0x5c#8, D]
  | 4 => fun v w => v = .agg (V8 Z)
  | _ => fun _ _ => True
theorem pdMR_mono (v5 : Value) (KB D Z : By) (g6 : Nat) : ∀ q0 v w w', pdMR v5 KB D Z g6 q0 v w → Below w.heap.size w w' → pdMR v5 KB D Z g6 q0 v w'
  | 0, _, _, _, h, _ => h
  | 1, _, _, _, h, hb => EqN.below h hb
  | 2, _, _, _, h, _ => h
  | 3, _, _, _, h, hb => by obtain ⟨g, e, h2⟩ := h; exact ⟨g, e, h2.below hb⟩
  | 4, _, _, _, h, _ => h
  | _ + 5, _, _, _, _, _ => trivial
set_option maxRecDepth 100000 in
set_option maxHeartbeats 4000000 in
theorem rmsum_any (k : By) (kv : Value) (ps : List By) (ad : Addr) (c : Nat) (w : World) (hk : EqN w k kv) (hkl : k.length ≤ 1000000) (hr : RdN w (some ad) ps) (hc : ps.length ≤ c) (hpl : ps.length ≤ 1000) (hfl : ps.flatten.length ≤ 1000000) : Calls Try.prog 47 #[kv, .slice (some ad) ps.length c] w fun e w' => e = .returned (.agg (V8 (macL k ps.flatten))) ∧ Below w.heap.size w w' := by
  obtain ⟨i35, hi35', hz35', hs35', hb35⟩ := info_parts info35
  have HI35 := Lib.hid hi35'
  have HZ35 := Lib.hid hz35'
  have HS35 := Lib.hid hs35'
  have hz32 := zeros32
  have hzs32 : (V8 (List.replicate 32 0)).size = 32 := by rw [V8_size]; rfl
  obtain ⟨Zr, hZr⟩ : ∃ Z, V8 (List.replicate 32 0) = Z := ⟨_, rfl⟩
  rw [hZr] at hz32 hzs32
  have HZ32 := Lib.hid hz32
  have HZS32 := Lib.hid hzs32
  clear hz32 hzs32 hZr hi35' hz35' hs35' hb35
  have hml := macL_len k ps.flatten
  have hkb := keyB_len k
  obtain ⟨Z, hZ2⟩ : ∃ Z, macL k ps.flatten = Z := ⟨_, rfl⟩
  rw [hZ2] at hml ⊢
  have HSZ := Lib.hid (show (Try.prog.info? 25).map (·.size) = some (V8 Z).size by rw [V8_size, hml]; kernel_rfl)
  have HZZ0 := Lib.hid (show Zr.size = (V8 Z).size by rw [V8_size, hml]; exact HZS32.out)
  have hz3 : sumL (xorB (keyB k) 0x5c#8 ++ sumL (xorB (keyB k) 0x36#8 ++ ps.flatten)) = Z := hZ2
  have OF := Lib.hid (fun (w' : World) (hb : Below w.heap.size w w') => block_any k kv w' (hk.below hb) hkl)
  obtain ⟨KB, hK⟩ : ∃ KB, keyB k = KB := ⟨_, rfl⟩
  rw [hK] at hz3 hkb OF
  have hxl : (xorB KB 0x36#8).length = 64 := by rw [xorB_len]; exact hkb
  have hDl := sumL_len (xorB KB 0x36#8 ++ ps.flatten)
  obtain ⟨D, hD⟩ : ∃ D, sumL (xorB KB 0x36#8 ++ ps.flatten) = D := ⟨_, rfl⟩
  rw [hD] at hz3 hDl
  have HD := Lib.hid hD
  have HZZ := Lib.hid hz3
  have HKL := Lib.hid hkb
  have HDL := Lib.hid hDl
  have HXL := Lib.hid hxl
  have HFL := Lib.hid (show [xorB KB 0x5c#8, D].flatten = xorB KB 0x5c#8 ++ D by simp)
  have HFM := Lib.hid (show (xorB KB 0x5c#8 ++ D).length ≤ 140737488355000 by rw [List.length_append, xorB_len, hkb, hDl]; decide)
  have HSD := Lib.hid (show (Try.prog.info? 24).map (·.size) = some (V8 D).size by rw [V8_size, hDl]; kernel_rfl)
  have HZD := Lib.hid (show Zr.size = (V8 D).size by rw [V8_size, hDl]; exact HZS32.out)
  have HR := Lib.hid hr
  obtain ⟨n, hn⟩ : ∃ n, ps.length = n := ⟨_, rfl⟩
  rw [hn] at hc hpl ⊢
  have HN := Lib.hid hn
  have HFLL := Lib.hid hfl
  clear hK hz3 hkb hxl hDl hD hZ2 hml hr hfl hn hkl hk
  have z4 := Lib.hid (heap_new w (.cells Zr 25) w.heap.size rfl)
  have b4 := Lib.hid (below_alloc1 w (.cells Zr 25))
  go_enter Try.func47, Try.ntmps47
  go_upto_region 1 with (fail)
  rw [← HZ32.out]
  obtain ⟨W4, hW4⟩ : ∃ W, w.alloc (.cells Zr 25) = W := ⟨_, rfl⟩
  rw [hW4] at z4 b4 ⊢
  clear hW4
  go_wp2_with fail
  refine (OF.out _ b4.out).mono ?_
  rintro e w5 ⟨v5, rfl, hE5, hb5⟩
  have Z5 := Lib.hid (keepH hb5 z4.out)
  have B5 := Lib.hid (b4.out.trans (hb5.mono b4.out.size))
  have HE5 := Lib.hid hE5
  have WI := Lib.hid (show Calls Try.prog 89 #[v5, .int .u8 54] w5 fun e w' => ∃ v, e = .returned v ∧ EqN w' (xorB KB 0x36#8) v ∧ Below w5.heap.size w5 w' from xored_any KB v5 0x36#8 w5 hE5 (by rw [HKL.out]; decide))
  clear z4 b4 hb5 OF hE5
  go_wp2_with fail
  refine WI.out.mono ?_
  rintro e w7 ⟨v10, rfl, hE10, hb7⟩
  have K7 := Lib.hid (HE5.out.below hb7)
  have Z7 := Lib.hid (keepH hb7 Z5.out)
  have B7 := Lib.hid (B5.out.trans (hb7.mono B5.out.size))
  have HE10 := Lib.hid hE10
  obtain ⟨A10, n10, c10, hv10⟩ : ∃ a n c, v10 = .slice a n c := by obtain ⟨a, c, e, _⟩ := hE10; exact ⟨a, _, c, e⟩
  have O8 := Lib.hid (show OwnP w7 (w7.alloc (.cells #[v10] 35)) w7.heap.size (.slice (some ⟨w7.heap.size, 0, none⟩) 1 1) [xorB KB 0x36#8] from OwnP.one (heap_new _ _ _ rfl) (Nat.le_refl _) hE10)
  have B8 := Lib.hid (show Below w.heap.size w (w7.alloc (.cells #[v10] 35)) from B7.out.alloc B7.out.size _)
  have HS8 := Lib.hid (show w7.heap.size ≤ (w7.alloc (.cells #[v10] 35)).heap.size from by simp)
  have HR7 := Lib.hid (show RdN w7 (some ad) ps from HR.out.below B7.out)
  have HB78 := Lib.hid (show Below w7.heap.size w7 (w7.alloc (.cells #[v10] 35)) from below_alloc1 _ _)
  subst hv10
  clear WI hb7 HE5 Z5 B5 hE10
  obtain ⟨W8, hW8⟩ : ∃ W, w7.alloc (.cells #[.slice A10 n10 c10] 35) = W := ⟨_, rfl⟩
  rw [hW8] at O8 B8 HS8 HB78
  have HW8 := Lib.hid hW8
  clear hW8
  have SM := Lib.hid (show ∀ w9 A c, RdN w9 A (xorB KB 0x36#8 :: ps) → (xorB KB 0x36#8 :: ps).length ≤ c → Calls Try.prog 26 #[.slice A (xorB KB 0x36#8 :: ps).length c] w9 fun e w' => e = .returned (.agg (V8 D)) ∧ Below w9.heap.size w9 w' from fun w9 A c h1 h2 => by
    have h := rsum_any (xorB KB 0x36#8 :: ps) A c w9 h1 h2 (by rw [List.flatten_cons, List.length_append, HXL.out]; have := HFLL.out; omega)
    rw [List.flatten_cons, HD.out] at h
    exact h)
  go_wp2_with (first | (at_builtin; rw [HW8.out]; refine wpList_append_rows rfl (.tmp 12) (.tmp 13) rfl w7.heap.size _ [xorB KB 0x36#8] rfl O8.out ad c ps (by rw [HN.out]; rfl) HR7.out HB78.out (by rw [HN.out]; exact hc) (by rw [HN.out]; simp; omega) HS8.out ?_; intro v13 w9 hown hb9; have HO9 := Lib.hid hown; have B79 := Lib.hid (HB78.out.trans hb9); clear hown hb9) | fail)
  obtain ⟨A13, c13, rfl, hc13, hr13⟩ := HO9.out.rd B79.out
  have hcall := SM.out w9 A13 c13 hr13 hc13
  have B9 := Lib.hid (B7.out.trans (B79.out.mono B7.out.size))
  have K9 := Lib.hid (K7.out.below B79.out)
  have Z9 := Lib.hid (keepH B79.out Z7.out)
  clear hr13 hc13 HO9 SM O8 HW8 HS8 B8 HB78 HR7 HE10 K7 Z7 B7 B79
  refine hcall.mono ?_
  rintro e w10 ⟨rfl, hb10⟩
  have K10 := Lib.hid (K9.out.below hb10)
  have Z10 := Lib.hid (keepH hb10 Z9.out)
  have B10 := Lib.hid (B9.out.trans (hb10.mono B9.out.size))
  clear hcall hb10 K9 Z9 B9
  go_upto_region 4 with (first | ((with_reducible show wpList _ _ _ (⟨none, .store 24 (.tmp 7) (.tmp 16), _, _, _, _⟩ :: _) _ _); rw [← HZ32.out]; refine wpList_store_row rfl 24 (.tmp 7) (.tmp 16) rfl w10.heap.size (V8 D) rfl rfl 24 _ (heap_new _ _ _ rfl) HSD.out HZD.out (V8_one _) ?_) | fail)
  generalize hW11 : (World.setRow _ _ _) = W11
  obtain ⟨g6, hg6⟩ : ∃ g, w10.heap.size = g := ⟨_, rfl⟩
  have b11 : Below w10.heap.size w10 W11 := by rw [← hW11]; exact below_setRow _ _ ((Below.refl _ _).alloc (Nat.le_refl _) _) (Nat.le_refl _)
  have D6 := Lib.hid (EqN.arr (show W11.heap[g6]? = some (.cells (V8 D) 24 (0, 0)) by rw [← hW11, ← hg6]; exact setRow_heap _ _ _ _ _ _ (heap_new _ _ _ rfl)) 32 HDL.out (by decide))
  have K5 := Lib.hid (K10.out.below b11)
  have Z11 := Lib.hid (keepH b11 Z10.out)
  have B11 := Lib.hid (B10.out.trans (b11.mono B10.out.size))
  have hi35 := HI35.out
  have hz35 := HZ35.out
  have hs35 := HS35.out
  rw [hg6]
  clear hW11 hg6 b11 K10 Z10 B10
  refine wp_region_mono (w0 := _) 5 [some 17, some 18, some 19, some 20, some 21] (by kernel_rfl) (by kernel_rfl) (by kernel_rfl) (by kernel_rfl) (of_decide_eq_true (by kernel_rfl)) (by kernel_rfl) (pdMR v5 KB D Z g6) ?_ ?_ ?_
  · exact pdMR_mono v5 KB D Z g6
  · intro i hi o w1 b ho hbel hv hstood hsize K hK
    have hc : i = 0 ∨ i = 1 ∨ i = 2 ∨ i = 3 ∨ i = 4 := by omega
    rcases hc with rfl | rfl | rfl | rfl | rfl
    · obtain rfl : (⟨some 17, .move (Operand.tmp 5), _, _, _, _⟩ : Oper) = o := Option.some.inj ho
      refine ask_plain rfl ?_
      have e : b.eval (.tmp 5) = v5 := (hstood 5 (by kernel_rfl)).trans rfl
      exact wp_val _ rfl (hK _ _ e (Below.refl _ _))
    · obtain rfl : (⟨some 18, .call { callee := (Callee.value (Operand.func 89)), args := #[(Operand.tmp 17), (Operand.const (Value.int IntKind.u8 92))], argTypes := #[35, 5] }, _, _, _, _⟩ : Oper) = o := Option.some.inj ho
      refine ask_plain rfl ?_
      have e1 : b.eval (.tmp 17) = v5 := hv 0 17 (by kernel_rfl) (by kernel_rfl) (of_decide_eq_true (by kernel_rfl))
      refine wp_call_fn 89 _ #[35, 5] rfl Try.f89 _ Try.func89 (by kernel_rfl) rfl #[v5, .int .u8 92] (by simp [e1]; try rfl) ((xored_any KB v5 0x5c#8 w1 (K5.out.below hbel) (by rw [HKL.out]; decide)).mono ?_)
      rintro e w2 ⟨v, rfl, hE, hb2⟩
      exact ⟨_, rfl, hK _ _ hE hb2⟩
    · obtain rfl : (⟨some 19, .slice 24 (Operand.tmp 7) none none none, _, _, _, _⟩ : Oper) = o := Option.some.inj ho
      refine ask_plain rfl ?_
      have e : b.eval (.tmp 7) = .pointer (some ⟨g6, 0, none⟩) := (hstood 7 (by kernel_rfl)).trans rfl
      have hf := slice24 ⟨g6, 0, none⟩ w1
      exact wp_val (.slice (some ⟨g6, 0, none⟩) 32 32) (by simp only [execOp, e, hf, Option.map_none, Sem.run_bind, Result.andThen]; rfl) (hK _ _ rfl (Below.refl _ _))
    · obtain rfl : (⟨some 20, .buildSlice 22 2 #[(0, (Operand.tmp 18)), (1, (Operand.tmp 19))], _, _, _, _⟩ : Oper) = o := Option.some.inj ho
      refine ask_plain rfl ?_
      have hE1 : EqN w1 (xorB KB 0x5c#8) (b.eval (.tmp 18)) := hv 1 18 (by kernel_rfl) (by kernel_rfl) (of_decide_eq_true (by kernel_rfl))
      have e2 : b.eval (.tmp 19) = .slice (some ⟨g6, 0, none⟩) 32 32 := hv 2 19 (by kernel_rfl) (by kernel_rfl) (of_decide_eq_true (by kernel_rfl))
      obtain ⟨A1, c1, ev1, _⟩ := id hE1
      refine wp_buildSlice 22 35 2 _ rfl #[b.eval (.tmp 18), .slice (some ⟨g6, 0, none⟩) 32 32] i35 (.slice none 0 0) Try.underlying22 hi35 hz35 (by rw [hs35]; decide) (by rw [hs35]; decide) (by rw [hs35]; simp only [List.map_toArray, List.map_cons, List.map_nil, e2, ev1]; kernel_rfl) (hK _ _ ⟨_, rfl, RdN.new2 w1 (xorB KB 0x5c#8) D _ _ 35 (0, 0) _ rfl hE1 (D6.out.below hbel)⟩ (below_alloc1 _ _))
    · obtain rfl : (⟨some 21, .call { callee := (Callee.value (Operand.func 26)), args := #[(Operand.tmp 20)], argTypes := #[22] }, _, _, _, _⟩ : Oper) = o := Option.some.inj ho
      refine ask_plain rfl ?_
      obtain ⟨gg, e1, hr2⟩ : ∃ g, b.eval (.tmp 20) = .slice (some ⟨g, 0, none⟩) 2 2 ∧ RdN w1 (some ⟨g, 0, none⟩) [xorB KB 0x5c#8, D] := hv 3 20 (by kernel_rfl) (by kernel_rfl) (of_decide_eq_true (by kernel_rfl))
      have hcall := rsum_any [xorB KB 0x5c#8, D] (some ⟨gg, 0, none⟩) 2 w1 hr2 (by simp) (by rw [HFL.out]; exact HFM.out)
      rw [HFL.out, HZZ.out] at hcall
      refine wp_call_fn 26 #[.tmp 20] #[22] rfl Try.f26 _ Try.func26 (by kernel_rfl) rfl #[.slice (some ⟨gg, 0, none⟩) 2 2] (by simp [e1]) (hcall.mono ?_)
      rintro e w2 ⟨rfl, hb2⟩
      exact ⟨_, rfl, hK _ _ rfl hb2⟩
  · intro vs w12 hp hb12
    have v0 : vs 0 = v5 := hp 0 (by decide)
    have v2 : vs 2 = .slice (some ⟨g6, 0, none⟩) 32 32 := hp 2 (by decide)
    have v4 : vs 4 = .agg (V8 Z) := hp 4 (by decide)
    have Z12 := Lib.hid (keepH hb12 Z11.out)
    have B12 := Lib.hid (B11.out.trans (hb12.mono B11.out.size))
    change wpList _ _ _ [_] _ _
    simp only [putD, Act.put, List.setIfInBounds_toArray, List.set_cons_zero, List.set_cons_succ, v0, v2, v4]
    generalize vs 1 = x1, vs 3 = x3
    clear v0 v2 v4 hp hb12 Z11 B11
    go_wp2_with (first | ((with_reducible show wpList _ _ _ (⟨none, .store 25 (.tmp 4) (.tmp 21), _, _, _, _⟩ :: _) _ _); refine wpList_store_row rfl 25 (.tmp 4) (.tmp 21) rfl w.heap.size (V8 Z) rfl rfl 25 _ Z12.out HSZ.out HZZ0.out (V8_one _) ?_) | fail)
    have gz := setRow_heap w12 w.heap.size _ (V8 Z) _ _ Z12.out
    have hrv := run_loadVar_row (P := Try.prog) (w12.setRow w.heap.size (V8 Z)) w.heap.size 25 25 (V8 Z) (0, 0) _ gz Try.underlying25 rfl HSZ.out
    exact bodyPost_ret (v := .agg (V8 Z)) (by simp [results, Try.results47, asAddr, hrv, Act.put]) rfl ⟨rfl, below_setRow _ _ B12.out (Nat.le_refl _)⟩
end Go.Proofs.Ytjaakhjfpigdfaa
